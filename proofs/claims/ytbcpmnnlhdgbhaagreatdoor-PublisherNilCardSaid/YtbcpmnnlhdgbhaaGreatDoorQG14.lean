/- The texts PE3 PE9 PE11 ED0 of this work, merged by wip/merge.py. No conditions. -/
import Derived.Test.YtbcpmnnlhdgbhaaGreatDoorQG11
import Derived.Test.YtbcpmnnlhdgbhaaGreatDoorQG12
import Derived.Test.YtbcpmnnlhdgbhaaGreatDoorQG13
namespace Go.Proofs.YtbcpmnnlhdgbhaaGreatDoor
open Go.RowKit Go.Lib
set_option maxRecDepth 100000 in
set_option maxHeartbeats 4000000 in
theorem doubleP_any (p : Pt) (hp : p.ok) (w : World) : Calls Tryz.prog 204 #[.agg p.cs] w (PRet (doubleP p) w) := by
  obtain ⟨hpx, hpy, hpz, _⟩ := hp
  obtain ⟨v15, h15⟩ : ∃ v, v = timesE p.x p.x := ⟨_, rfl⟩
  have O15 : Hid (v15.ok) := by show v15.ok; rw [h15]; exact times_ok _ _
  have C15 : Hid (∀ w, Calls Tryz.prog 199 #[.agg p.x.cs, .agg p.x.cs] w (fun e w' => e = .returned (.agg v15.cs) ∧ Below w.heap.size w w')) := fun w => by rw [h15]; exact Times_any p.x p.x hpx hpx w
  obtain ⟨v20, h20⟩ : ∃ v, v = timesE p.y p.y := ⟨_, rfl⟩
  have O20 : Hid (v20.ok) := by show v20.ok; rw [h20]; exact times_ok _ _
  have C20 : Hid (∀ w, Calls Tryz.prog 199 #[.agg p.y.cs, .agg p.y.cs] w (fun e w' => e = .returned (.agg v20.cs) ∧ Below w.heap.size w w')) := fun w => by rw [h20]; exact Times_any p.y p.y hpy hpy w
  obtain ⟨v25, h25⟩ : ∃ v, v = timesE p.z p.z := ⟨_, rfl⟩
  have O25 : Hid (v25.ok) := by show v25.ok; rw [h25]; exact times_ok _ _
  have C25 : Hid (∀ w, Calls Tryz.prog 199 #[.agg p.z.cs, .agg p.z.cs] w (fun e w' => e = .returned (.agg v25.cs) ∧ Below w.heap.size w w')) := fun w => by rw [h25]; exact Times_any p.z p.z hpz hpz w
  obtain ⟨v28, h28⟩ : ∃ v, v = plusE v25 v25 := ⟨_, rfl⟩
  have O28 : Hid (v28.ok) := by show v28.ok; rw [h28]; exact plus_ok _ _
  have C28 : Hid (∀ w, Calls Tryz.prog 229 #[.agg v25.cs, .agg v25.cs] w (fun e w' => e = .returned (.agg v28.cs) ∧ Below w.heap.size w w')) := fun w => by rw [h28]; exact Plus_any v25 v25  w
  obtain ⟨v33, h33⟩ : ∃ v, v = plusE p.x p.y := ⟨_, rfl⟩
  have O33 : Hid (v33.ok) := by show v33.ok; rw [h33]; exact plus_ok _ _
  have C33 : Hid (∀ w, Calls Tryz.prog 229 #[.agg p.x.cs, .agg p.y.cs] w (fun e w' => e = .returned (.agg v33.cs) ∧ Below w.heap.size w w')) := fun w => by rw [h33]; exact Plus_any p.x p.y  w
  obtain ⟨v36, h36⟩ : ∃ v, v = plusE v15 v20 := ⟨_, rfl⟩
  have O36 : Hid (v36.ok) := by show v36.ok; rw [h36]; exact plus_ok _ _
  have C36 : Hid (∀ w, Calls Tryz.prog 229 #[.agg v15.cs, .agg v20.cs] w (fun e w' => e = .returned (.agg v36.cs) ∧ Below w.heap.size w w')) := fun w => by rw [h36]; exact Plus_any v15 v20  w
  obtain ⟨v40, h40⟩ : ∃ v, v = timesE v33 v33 := ⟨_, rfl⟩
  have O40 : Hid (v40.ok) := by show v40.ok; rw [h40]; exact times_ok _ _
  have C40 : Hid (∀ w, Calls Tryz.prog 199 #[.agg v33.cs, .agg v33.cs] w (fun e w' => e = .returned (.agg v40.cs) ∧ Below w.heap.size w w')) := fun w => by rw [h40]; exact Times_any v33 v33 O33.out O33.out w
  obtain ⟨v41, h41⟩ : ∃ v, v = minusE v36 v40 := ⟨_, rfl⟩
  have O41 : Hid (v41.ok) := by show v41.ok; rw [h41]; exact minus_ok _ _
  have C41 : Hid (∀ w, Calls Tryz.prog 227 #[.agg v36.cs, .agg v40.cs] w (fun e w' => e = .returned (.agg v41.cs) ∧ Below w.heap.size w w')) := fun w => by rw [h41]; exact Minus_any v36 v40 O40.out w
  obtain ⟨v44, h44⟩ : ∃ v, v = minusE v15 v20 := ⟨_, rfl⟩
  have O44 : Hid (v44.ok) := by show v44.ok; rw [h44]; exact minus_ok _ _
  have C44 : Hid (∀ w, Calls Tryz.prog 227 #[.agg v15.cs, .agg v20.cs] w (fun e w' => e = .returned (.agg v44.cs) ∧ Below w.heap.size w w')) := fun w => by rw [h44]; exact Minus_any v15 v20 O20.out w
  obtain ⟨v47, h47⟩ : ∃ v, v = plusE v28 v44 := ⟨_, rfl⟩
  have O47 : Hid (v47.ok) := by show v47.ok; rw [h47]; exact plus_ok _ _
  have C47 : Hid (∀ w, Calls Tryz.prog 229 #[.agg v28.cs, .agg v44.cs] w (fun e w' => e = .returned (.agg v47.cs) ∧ Below w.heap.size w w')) := fun w => by rw [h47]; exact Plus_any v28 v44  w
  obtain ⟨v50, h50⟩ : ∃ v, v = timesE v41 v47 := ⟨_, rfl⟩
  have O50 : Hid (v50.ok) := by show v50.ok; rw [h50]; exact times_ok _ _
  have C50 : Hid (∀ w, Calls Tryz.prog 199 #[.agg v41.cs, .agg v47.cs] w (fun e w' => e = .returned (.agg v50.cs) ∧ Below w.heap.size w w')) := fun w => by rw [h50]; exact Times_any v41 v47 O41.out O47.out w
  obtain ⟨v53, h53⟩ : ∃ v, v = timesE v44 v36 := ⟨_, rfl⟩
  have O53 : Hid (v53.ok) := by show v53.ok; rw [h53]; exact times_ok _ _
  have C53 : Hid (∀ w, Calls Tryz.prog 199 #[.agg v44.cs, .agg v36.cs] w (fun e w' => e = .returned (.agg v53.cs) ∧ Below w.heap.size w w')) := fun w => by rw [h53]; exact Times_any v44 v36 O44.out O36.out w
  obtain ⟨v56, h56⟩ : ∃ v, v = timesE v47 v44 := ⟨_, rfl⟩
  have O56 : Hid (v56.ok) := by show v56.ok; rw [h56]; exact times_ok _ _
  have C56 : Hid (∀ w, Calls Tryz.prog 199 #[.agg v47.cs, .agg v44.cs] w (fun e w' => e = .returned (.agg v56.cs) ∧ Below w.heap.size w w')) := fun w => by rw [h56]; exact Times_any v47 v44 O47.out O44.out w
  obtain ⟨v59, h59⟩ : ∃ v, v = timesE v41 v36 := ⟨_, rfl⟩
  have O59 : Hid (v59.ok) := by show v59.ok; rw [h59]; exact times_ok _ _
  have C59 : Hid (∀ w, Calls Tryz.prog 199 #[.agg v41.cs, .agg v36.cs] w (fun e w' => e = .returned (.agg v59.cs) ∧ Below w.heap.size w w')) := fun w => by rw [h59]; exact Times_any v41 v36 O41.out O36.out w
  have HR : Hid (Pt.mk v50 v53 v56 v59 = doubleP p) := by show _ = _; subst h15 h20 h25 h28 h33 h36 h40 h41 h44 h47 h50 h53 h56 h59; rfl
  clear h15 h20 h25 h28 h33 h36 h40 h41 h44 h47 h50 h53 h56 h59
  have F0 := Lib.hid (BK.start w)
  have T0 : Hid True := trivial
  go_enter Tryz.func204, Tryz.ntmps204
  go_wp2_with (first
    | (have hx_ := T0; refine s_box F0.out rfl rfl rfl rfl ?_; intro w1 b1 h1 _; have F1 := Lib.hid h1; clear h1 F0; clear hx_ T0; have T1 : Hid True := trivial)
    | (have hx_ := T1; refine s_alloc F1.out rfl rfl zeroP rfl ?_; intro w2 b2 h1 _; have F2 := Lib.hid h1; clear h1 F1; clear hx_ T1; have T2 : Hid True := trivial))
  refine wp_region_walk 10 [(3, nilE.cs, 260), (4, nilE.cs, 260)] (by kernel_rfl) (by kernel_rfl) (allocs_ok (by kernel_rfl) (fun x hx => by simp only [List.mem_cons, List.not_mem_nil, or_false] at hx; rcases hx with rfl | rfl <;> exact zeroE)) ?Af1 ?h1 ?hK1
  case h1 =>
    intro F hF hN
    try simp only [Act.put]
    try simp only [List.setIfInBounds_toArray, List.set_cons_succ, List.set_cons_zero]
    try simp only [List.append_eq]
    try simp only [List.cons_append, List.nil_append]
    simp only [List.take_succ_cons, List.take_zero]
    go_big_quiet_step (fail)
    go_big_quiet_want
    refine q_load_e rfl p.x rfl (F2.out.lx 1 rfl) ?_
    go_big_quiet_on
    simp only [Act.put, List.setIfInBounds_toArray, List.set_cons_succ, List.set_cons_zero]
    go_big_quiet_step (fail)
    go_big_quiet_want
    refine q_load_e rfl p.x rfl (F2.out.lx 1 rfl) ?_
    go_big_quiet_on
    simp only [Act.put, List.setIfInBounds_toArray, List.set_cons_succ, List.set_cons_zero]
    go_big_quiet_step (exact fs_call hF (C15.out _))
    go_big_quiet_step (fail)
    go_big_quiet_want
    refine q_load_e rfl p.y rfl (F2.out.ly 1 rfl) ?_
    go_big_quiet_on
    simp only [Act.put, List.setIfInBounds_toArray, List.set_cons_succ, List.set_cons_zero]
    go_big_quiet_step (fail)
    go_big_quiet_want
    refine q_load_e rfl p.y rfl (F2.out.ly 1 rfl) ?_
    go_big_quiet_on
    simp only [Act.put, List.setIfInBounds_toArray, List.set_cons_succ, List.set_cons_zero]
    go_big_quiet_step (exact fs_call hF (C20.out _))
    refine wpQuiet_nil ?_
    exact rfl
  case hK1 =>
    intro w3 hb
    intro b4 hB4 hu4 hr4
    intro b5 hB5 hu5 hr5
    have F3 := Lib.hid (F2.out.foundAll hb [(b5, nilE.cs, 260), (b4, nilE.cs, 260)] (List.nodup_cons.2 ⟨hu5, List.nodup_cons.2 ⟨hu4, List.nodup_nil⟩⟩) (List.forall_mem_cons.2 ⟨⟨hB5, hr5⟩, List.forall_mem_cons.2 ⟨⟨hB4, hr4⟩, fun _ h => (List.not_mem_nil h).elim⟩⟩))
    clear hb hB4 hu4 hr4 hB5 hu5 hr5
    simp only [freshQ]
    try simp only [Act.put]
    try simp only [List.setIfInBounds_toArray, List.set_cons_succ, List.set_cons_zero]
    try simp only [List.append_eq]
    try simp only [List.cons_append, List.nil_append]
    simp only [List.length_cons, List.length_nil, Nat.reduceAdd, List.drop_succ_cons, List.drop_zero]
    have T2 : Hid True := trivial
    go_wp2_with (first
      | (have hx_ := T2; refine s_store F3.out rfl rfl 1 rfl rfl v15.cs rfl rfl (by kernel_rfl) (E5.cells _) ?_; intro w6 h1; have F4 := Lib.hid h1; clear h1 F3; clear hx_ T2; have T3 : Hid True := trivial)
      | (have hx_ := T3; refine s_store F4.out rfl rfl 0 rfl rfl v20.cs rfl rfl (by kernel_rfl) (E5.cells _) ?_; intro w7 h1; have F5 := Lib.hid h1; clear h1 F4; clear hx_ T3; have T4 : Hid True := trivial)
      | (have hx_ := T4; refine s_load_e rfl rfl p.z rfl (F5.out.lz 3 rfl) ?_; clear hx_ T4; have T5 : Hid True := trivial)
      | (have hx_ := T5; refine s_load_e rfl rfl p.z rfl (F5.out.lz 3 rfl) ?_; clear hx_ T5; have T6 : Hid True := trivial)
      | (go_at_call 199; have hx_ := T6; refine (C25.out _).mono ?_; rintro e w8 ⟨rfl, hb⟩; have F6 := Lib.hid (F5.out.later hb); clear hb F5; clear hx_ T6; have T7 : Hid True := trivial)
      | (have hx_ := T7; refine s_alloc F6.out rfl rfl zeroE rfl ?_; intro w9 b9 h1 _; have F7 := Lib.hid h1; clear h1 F6; clear hx_ T7; have T8 : Hid True := trivial)
      | (have hx_ := T8; refine s_store F7.out rfl rfl 0 rfl rfl v25.cs rfl rfl (by kernel_rfl) (E5.cells _) ?_; intro w10 h1; have F8 := Lib.hid h1; clear h1 F7; clear hx_ T8; have T9 : Hid True := trivial)
      | (have hx_ := T9; refine s_load_e rfl rfl v25 rfl (F8.out.le 0 rfl) ?_; clear hx_ T9; have T10 : Hid True := trivial)
      | (have hx_ := T10; refine s_load_e rfl rfl v25 rfl (F8.out.le 0 rfl) ?_; clear hx_ T10; have T11 : Hid True := trivial)
      | (go_at_call 229; have hx_ := T11; refine (C28.out _).mono ?_; rintro e w11 ⟨rfl, hb⟩; have F9 := Lib.hid (F8.out.later hb); clear hb F8; clear hx_ T11; have T12 : Hid True := trivial)
      | (have hx_ := T12; refine s_store F9.out rfl rfl 0 rfl rfl v28.cs rfl rfl (by kernel_rfl) (E5.cells _) ?_; intro w12 h1; have F10 := Lib.hid h1; clear h1 F9; clear hx_ T12; have T13 : Hid True := trivial)
      | (have hx_ := T13; refine s_load_e rfl rfl p.x rfl (F10.out.lx 4 rfl) ?_; clear hx_ T13; have T14 : Hid True := trivial)
      | (have hx_ := T14; refine s_load_e rfl rfl p.y rfl (F10.out.ly 4 rfl) ?_; clear hx_ T14; have T15 : Hid True := trivial)
      | (go_at_call 229; have hx_ := T15; refine (C33.out _).mono ?_; rintro e w13 ⟨rfl, hb⟩; have F11 := Lib.hid (F10.out.later hb); clear hb F10; clear hx_ T15; have T16 : Hid True := trivial)
      | (have hx_ := T16; refine s_alloc F11.out rfl rfl zeroE rfl ?_; intro w14 b14 h1 _; have F12 := Lib.hid h1; clear h1 F11; clear hx_ T16; have T17 : Hid True := trivial)
      | (have hx_ := T17; refine s_store F12.out rfl rfl 0 rfl rfl v33.cs rfl rfl (by kernel_rfl) (E5.cells _) ?_; intro w15 h1; have F13 := Lib.hid h1; clear h1 F12; clear hx_ T17; have T18 : Hid True := trivial)
      | (have hx_ := T18; refine s_load_e rfl rfl v15 rfl (F13.out.le 3 rfl) ?_; clear hx_ T18; have T19 : Hid True := trivial)
      | (have hx_ := T19; refine s_load_e rfl rfl v20 rfl (F13.out.le 2 rfl) ?_; clear hx_ T19; have T20 : Hid True := trivial)
      | (go_at_call 229; have hx_ := T20; refine (C36.out _).mono ?_; rintro e w16 ⟨rfl, hb⟩; have F14 := Lib.hid (F13.out.later hb); clear hb F13; clear hx_ T20; have T21 : Hid True := trivial)
      | (have hx_ := T21; refine s_alloc F14.out rfl rfl zeroE rfl ?_; intro w17 b17 h1 _; have F15 := Lib.hid h1; clear h1 F14; clear hx_ T21; have T22 : Hid True := trivial)
      | (have hx_ := T22; refine s_store F15.out rfl rfl 0 rfl rfl v36.cs rfl rfl (by kernel_rfl) (E5.cells _) ?_; intro w18 h1; have F16 := Lib.hid h1; clear h1 F15; clear hx_ T22; have T23 : Hid True := trivial))
    refine wp_region_walk 5 [(8, nilE.cs, 260)] (by kernel_rfl) (by kernel_rfl) (allocs_ok (by kernel_rfl) (fun x hx => by rw [List.mem_singleton.1 hx]; exact zeroE)) ?Af2 ?h2 ?hK2
    case h2 =>
      intro F hF hN
      try simp only [Act.put]
      try simp only [List.setIfInBounds_toArray, List.set_cons_succ, List.set_cons_zero]
      try simp only [List.append_eq]
      try simp only [List.cons_append, List.nil_append]
      simp only [List.take_succ_cons, List.take_zero]
      go_big_quiet_want
      refine q_load_e rfl v36 rfl (F16.out.le 0 rfl) ?_
      go_big_quiet_on
      simp only [Act.put, List.setIfInBounds_toArray, List.set_cons_succ, List.set_cons_zero]
      go_big_quiet_want
      refine q_load_e rfl v33 rfl (F16.out.le 1 rfl) ?_
      go_big_quiet_on
      simp only [Act.put, List.setIfInBounds_toArray, List.set_cons_succ, List.set_cons_zero]
      go_big_quiet_want
      refine q_load_e rfl v33 rfl (F16.out.le 1 rfl) ?_
      go_big_quiet_on
      simp only [Act.put, List.setIfInBounds_toArray, List.set_cons_succ, List.set_cons_zero]
      go_big_quiet_step (exact fs_call hF (C40.out _))
      go_big_quiet_step (exact fs_call hF (C41.out _))
      refine wpQuiet_nil ?_
      exact rfl
    case hK2 =>
      intro w19 hb
      intro b20 hB20 hu20 hr20
      have F17 := Lib.hid (F16.out.foundAll hb [(b20, nilE.cs, 260)] (List.nodup_cons.2 ⟨hu20, List.nodup_nil⟩) (List.forall_mem_cons.2 ⟨⟨hB20, hr20⟩, fun _ h => (List.not_mem_nil h).elim⟩))
      clear hb hB20 hu20 hr20
      simp only [freshQ]
      try simp only [Act.put]
      try simp only [List.setIfInBounds_toArray, List.set_cons_succ, List.set_cons_zero]
      try simp only [List.append_eq]
      try simp only [List.cons_append, List.nil_append]
      simp only [List.length_cons, List.length_nil, Nat.reduceAdd, List.drop_succ_cons, List.drop_zero]
      have T23 : Hid True := trivial
      go_wp2_with (first
        | (have hx_ := T23; refine s_store F17.out rfl rfl 0 rfl rfl v41.cs rfl rfl (by kernel_rfl) (E5.cells _) ?_; intro w21 h1; have F18 := Lib.hid h1; clear h1 F17; clear hx_ T23; have T24 : Hid True := trivial)
        | (have hx_ := T24; refine s_load_e rfl rfl v15 rfl (F18.out.le 5 rfl) ?_; clear hx_ T24; have T25 : Hid True := trivial)
        | (have hx_ := T25; refine s_load_e rfl rfl v20 rfl (F18.out.le 4 rfl) ?_; clear hx_ T25; have T26 : Hid True := trivial)
        | (go_at_call 227; have hx_ := T26; refine (C44.out _).mono ?_; rintro e w22 ⟨rfl, hb⟩; have F19 := Lib.hid (F18.out.later hb); clear hb F18; clear hx_ T26; have T27 : Hid True := trivial)
        | (have hx_ := T27; refine s_alloc F19.out rfl rfl zeroE rfl ?_; intro w23 b23 h1 _; have F20 := Lib.hid h1; clear h1 F19; clear hx_ T27; have T28 : Hid True := trivial)
        | (have hx_ := T28; refine s_store F20.out rfl rfl 0 rfl rfl v44.cs rfl rfl (by kernel_rfl) (E5.cells _) ?_; intro w24 h1; have F21 := Lib.hid h1; clear h1 F20; clear hx_ T28; have T29 : Hid True := trivial)
        | (have hx_ := T29; refine s_load_e rfl rfl v28 rfl (F21.out.le 4 rfl) ?_; clear hx_ T29; have T30 : Hid True := trivial)
        | (have hx_ := T30; refine s_load_e rfl rfl v44 rfl (F21.out.le 0 rfl) ?_; clear hx_ T30; have T31 : Hid True := trivial)
        | (go_at_call 229; have hx_ := T31; refine (C47.out _).mono ?_; rintro e w25 ⟨rfl, hb⟩; have F22 := Lib.hid (F21.out.later hb); clear hb F21; clear hx_ T31; have T32 : Hid True := trivial)
        | (have hx_ := T32; refine s_alloc F22.out rfl rfl zeroE rfl ?_; intro w26 b26 h1 _; have F23 := Lib.hid h1; clear h1 F22; clear hx_ T32; have T33 : Hid True := trivial)
        | (have hx_ := T33; refine s_store F23.out rfl rfl 0 rfl rfl v47.cs rfl rfl (by kernel_rfl) (E5.cells _) ?_; intro w27 h1; have F24 := Lib.hid h1; clear h1 F23; clear hx_ T33; have T34 : Hid True := trivial))
      refine wp_region_walk 13 [] (by kernel_rfl) (by kernel_rfl) (allocs_ok (by kernel_rfl) (fun x hx => (List.not_mem_nil hx).elim)) ?Af3 ?h3 ?hK3
      case h3 =>
        intro F hF hN
        try simp only [Act.put]
        try simp only [List.setIfInBounds_toArray, List.set_cons_succ, List.set_cons_zero]
        try simp only [List.append_eq]
        try simp only [List.cons_append, List.nil_append]
        simp only [List.take_succ_cons, List.take_zero]
        go_big_quiet_want
        refine q_load_e rfl v41 rfl (F24.out.le 2 rfl) ?_
        go_big_quiet_on
        simp only [Act.put, List.setIfInBounds_toArray, List.set_cons_succ, List.set_cons_zero]
        go_big_quiet_want
        refine q_load_e rfl v47 rfl (F24.out.le 0 rfl) ?_
        go_big_quiet_on
        simp only [Act.put, List.setIfInBounds_toArray, List.set_cons_succ, List.set_cons_zero]
        go_big_quiet_step (exact fs_call hF (C50.out _))
        go_big_quiet_want
        refine q_load_e rfl v44 rfl (F24.out.le 1 rfl) ?_
        go_big_quiet_on
        simp only [Act.put, List.setIfInBounds_toArray, List.set_cons_succ, List.set_cons_zero]
        go_big_quiet_want
        refine q_load_e rfl v36 rfl (F24.out.le 3 rfl) ?_
        go_big_quiet_on
        simp only [Act.put, List.setIfInBounds_toArray, List.set_cons_succ, List.set_cons_zero]
        go_big_quiet_step (exact fs_call hF (C53.out _))
        go_big_quiet_want
        refine q_load_e rfl v47 rfl (F24.out.le 0 rfl) ?_
        go_big_quiet_on
        simp only [Act.put, List.setIfInBounds_toArray, List.set_cons_succ, List.set_cons_zero]
        go_big_quiet_want
        refine q_load_e rfl v44 rfl (F24.out.le 1 rfl) ?_
        go_big_quiet_on
        simp only [Act.put, List.setIfInBounds_toArray, List.set_cons_succ, List.set_cons_zero]
        go_big_quiet_step (exact fs_call hF (C56.out _))
        go_big_quiet_want
        refine q_load_e rfl v41 rfl (F24.out.le 2 rfl) ?_
        go_big_quiet_on
        simp only [Act.put, List.setIfInBounds_toArray, List.set_cons_succ, List.set_cons_zero]
        go_big_quiet_want
        refine q_load_e rfl v36 rfl (F24.out.le 3 rfl) ?_
        go_big_quiet_on
        simp only [Act.put, List.setIfInBounds_toArray, List.set_cons_succ, List.set_cons_zero]
        go_big_quiet_step (exact fs_call hF (C59.out _))
        go_big_quiet_want
        refine q_build_p rfl v50 v53 v56 v59 rfl rfl rfl rfl ?_
        go_big_quiet_on
        simp only [Act.put, List.setIfInBounds_toArray, List.set_cons_succ, List.set_cons_zero]
        refine wpQuiet_nil ?_
        exact rfl
      case hK3 =>
        intro w28 hb
        have F25 := Lib.hid (F24.out.later hb)
        clear hb
        simp only [freshQ]
        try simp only [Act.put]
        try simp only [List.setIfInBounds_toArray, List.set_cons_succ, List.set_cons_zero]
        try simp only [List.append_eq]
        try simp only [List.cons_append, List.nil_append]
        simp only [List.length_nil, Nat.reduceAdd, List.drop_succ_cons, List.drop_zero]
        have T34 : Hid True := trivial
        go_wp2_with (first
          | (have hx_ := T34; refine s_store F25.out rfl rfl 8 rfl rfl (Pt.mk v50 v53 v56 v59).cs rfl rfl (by kernel_rfl) (Pt.cells _) ?_; intro w29 h1; have F26 := Lib.hid h1; clear h1 F25; clear hx_ T34; have T35 : Hid True := trivial))
        exact bodyPost_ret (v := .agg (Pt.mk v50 v53 v56 v59).cs) (by simp [results, Tryz.results204, asAddr]; exact retP (F26.out.mem (i := 8) rfl)) rfl ⟨by rw [← HR.out], F26.out.below⟩
end Go.Proofs.YtbcpmnnlhdgbhaaGreatDoor

namespace Go.Proofs.YtbcpmnnlhdgbhaaGreatDoor
open Go.RowKit Go.Lib
set_option maxRecDepth 100000 in
set_option maxHeartbeats 4000000 in
theorem B_any (w : World) : Calls Tryz.prog 178 #[] w (PRet baseP w) := by
  have hz := zeroE
  obtain ⟨v7, h7⟩ : ∃ v, v = oneE := ⟨_, rfl⟩
  have O7 : Hid (v7.ok) := by show v7.ok; rw [h7]; exact one_ok
  have C7 : Hid (∀ w, Calls Tryz.prog 217 #[] w (fun e w' => e = .returned (.agg v7.cs) ∧ Below w.heap.size w w')) := fun w => by rw [h7]; exact One_any w
  obtain ⟨v10, h10⟩ : ∃ v, v = timesE bxE byE := ⟨_, rfl⟩
  have O10 : Hid (v10.ok) := by show v10.ok; rw [h10]; exact times_ok _ _
  have C10 : Hid (∀ w, Calls Tryz.prog 199 #[.agg bxE.cs, .agg byE.cs] w (fun e w' => e = .returned (.agg v10.cs) ∧ Below w.heap.size w w')) := fun w => by rw [h10]; exact Times_any bxE byE bx_ok by_ok w
  have HR : Hid (Pt.mk bxE byE v7 v10 = baseP) := by show _ = _; subst h7 h10; rfl
  clear h7 h10
  have F0 := Lib.hid (BK.start w)
  have T0 : Hid True := trivial
  go_enter Tryz.func178, Tryz.ntmps178
  go_wp2_with (first
    | (have hx_ := T0; refine s_alloc F0.out rfl rfl zeroP rfl ?_; intro w1 b1 h1 _; have F1 := Lib.hid h1; clear h1 F0; clear hx_ T0; have T1 : Hid True := trivial)
    | (have hx_ := T1; refine s_alloc F1.out rfl rfl zeroE rfl ?_; intro w2 b2 h1 _; have F2 := Lib.hid h1; clear h1 F1; clear hx_ T1; have T2 : Hid True := trivial)
    | (have hx_ := T2; refine s_store F2.out rfl rfl 0 rfl rfl bxE.cs rfl rfl (by kernel_rfl) (E5.cells _) ?_; intro w3 h1; have F3 := Lib.hid h1; clear h1 F2; clear hx_ T2; have T3 : Hid True := trivial)
    | (have hx_ := T3; refine s_alloc F3.out rfl rfl zeroE rfl ?_; intro w4 b4 h1 _; have F4 := Lib.hid h1; clear h1 F3; clear hx_ T3; have T4 : Hid True := trivial)
    | (have hx_ := T4; refine s_store F4.out rfl rfl 0 rfl rfl byE.cs rfl rfl (by kernel_rfl) (E5.cells _) ?_; intro w5 h1; have F5 := Lib.hid h1; clear h1 F4; clear hx_ T4; have T5 : Hid True := trivial))
  refine wp_region_walk 7 [] (by kernel_rfl) (by kernel_rfl) (allocs_ok (by kernel_rfl) (fun x hx => (List.not_mem_nil hx).elim)) ?Af1 ?h1 ?hK1
  case h1 =>
    intro F hF hN
    try simp only [Act.put]
    try simp only [List.setIfInBounds_toArray, List.set_cons_succ, List.set_cons_zero]
    try simp only [List.append_eq]
    try simp only [List.cons_append, List.nil_append]
    simp only [List.take_succ_cons, List.take_zero]
    go_big_quiet_want
    refine q_load_e rfl bxE rfl (F5.out.le 1 rfl) ?_
    go_big_quiet_on
    simp only [Act.put, List.setIfInBounds_toArray, List.set_cons_succ, List.set_cons_zero]
    go_big_quiet_want
    refine q_load_e rfl byE rfl (F5.out.le 0 rfl) ?_
    go_big_quiet_on
    simp only [Act.put, List.setIfInBounds_toArray, List.set_cons_succ, List.set_cons_zero]
    go_big_quiet_step (exact fs_call hF (C7.out _))
    go_big_quiet_want
    refine q_load_e rfl bxE rfl (F5.out.le 1 rfl) ?_
    go_big_quiet_on
    simp only [Act.put, List.setIfInBounds_toArray, List.set_cons_succ, List.set_cons_zero]
    go_big_quiet_want
    refine q_load_e rfl byE rfl (F5.out.le 0 rfl) ?_
    go_big_quiet_on
    simp only [Act.put, List.setIfInBounds_toArray, List.set_cons_succ, List.set_cons_zero]
    go_big_quiet_step (exact fs_call hF (C10.out _))
    go_big_quiet_want
    refine q_build_p rfl bxE byE v7 v10 rfl rfl rfl rfl ?_
    go_big_quiet_on
    simp only [Act.put, List.setIfInBounds_toArray, List.set_cons_succ, List.set_cons_zero]
    refine wpQuiet_nil ?_
    exact rfl
  case hK1 =>
    intro w6 hb
    have F6 := Lib.hid (F5.out.later hb)
    clear hb
    simp only [freshQ]
    try simp only [Act.put]
    try simp only [List.setIfInBounds_toArray, List.set_cons_succ, List.set_cons_zero]
    try simp only [List.append_eq]
    try simp only [List.cons_append, List.nil_append]
    simp only [List.length_nil, Nat.reduceAdd, List.drop_succ_cons, List.drop_zero]
    have T5 : Hid True := trivial
    go_wp2_with (first
      | (have hx_ := T5; refine s_store F6.out rfl rfl 2 rfl rfl (Pt.mk bxE byE v7 v10).cs rfl rfl (by kernel_rfl) (Pt.cells _) ?_; intro w7 h1; have F7 := Lib.hid h1; clear h1 F6; clear hx_ T5; have T6 : Hid True := trivial))
    exact bodyPost_ret (v := .agg (Pt.mk bxE byE v7 v10).cs) (by simp [results, Tryz.results178, asAddr]; exact retP (F7.out.mem (i := 2) rfl)) rfl ⟨by rw [← HR.out], F7.out.below⟩
end Go.Proofs.YtbcpmnnlhdgbhaaGreatDoor

namespace Go.Proofs.YtbcpmnnlhdgbhaaGreatDoor
open Go.RowKit Go.Lib
def tabR (f : Nat → Pt) (s : Nat) : Nat → List Value
  | 0 => []
  | n + 1 => (f s).cs.toList ++ tabR f (s + 1) n
theorem tabR_len (f : Nat → Pt) : ∀ (n s : Nat), (tabR f s n).length = 20 * n
  | 0, _ => rfl
  | n + 1, s => by
    rw [tabR, List.length_append, tabR_len f n, Array.length_toList]
    show 20 + _ = _
    omega
theorem tabR_split (f : Nat → Pt) (n : Nat) : ∀ (m s : Nat), tabR f s (m + (n + 1)) = tabR f s m ++ ((f (s + m)).cs.toList ++ tabR f (s + m + 1) n)
  | 0, s => by rw [Nat.zero_add]; rfl
  | m + 1, s => by
    rw [show m + 1 + (n + 1) = (m + (n + 1)) + 1 by omega, tabR, tabR_split f n m (s + 1), tabR, List.append_assoc, show s + 1 + m = s + (m + 1) by omega]
theorem tabR_same {f g : Nat → Pt} : ∀ (n s : Nat), (∀ i, s ≤ i → i < s + n → f i = g i) → tabR f s n = tabR g s n
  | 0, _, _ => rfl
  | n + 1, s, h => by rw [tabR, tabR, h s (Nat.le_refl _) (by omega), tabR_same n (s + 1) (fun i h1 h2 => h i (by omega) (by omega))]
/-- Sixteen points. -/
def tabC (f : Nat → Pt) : Array Value := (tabR f 0 16).toArray
theorem tabC_size (f : Nat → Pt) : (tabC f).size = 320 := by simp [tabC, tabR_len]
theorem tabC_cut (f : Nat → Pt) {i : Nat} (hi : i < 16) : tabR f 0 16 = tabR f 0 i ++ ((f i).cs.toList ++ tabR f (i + 1) (15 - i)) := by
  have h := tabR_split f (15 - i) i 0
  rw [show i + (15 - i + 1) = 16 by omega, Nat.zero_add] at h
  exact h
theorem tabC_part (f : Nat → Pt) {i : Nat} (hi : i < 16) (j : Nat) (hj : j < (f i).cs.toList.length) : (tabC f)[20 * i + j]? = (f i).cs.toList[j]? := by
  simp only [tabC, List.getElem?_toArray]
  rw [tabC_cut f hi, List.getElem?_append_right (by rw [tabR_len]; omega), tabR_len, show 20 * i + j - 20 * i = j by omega, List.getElem?_append_left hj]
theorem heap_setCells_mid {b : Nat} {t : TypeId} : ∀ (vs pre old post : List Value) (o : Nat) (w : World), pre.length = o → old.length = vs.length → w.heap[b]? = some (.cells (pre ++ (old ++ post)).toArray t (0, 0)) → (w.setCells b o vs).heap[b]? = some (.cells (pre ++ (vs ++ post)).toArray t (0, 0)) := by
  intro vs
  induction vs with
  | nil =>
    intro pre old post o w _ hl h
    rw [List.length_eq_zero_iff.1 hl] at h
    exact h
  | cons v vs ih =>
    intro pre old post o w hp hl h
    cases old with
    | nil => cases hl
    | cons u old =>
      have h1 := heap_setCell_same w b o _ _ v h
      have e : ((pre ++ (u :: old ++ post)).toArray).setIfInBounds o v = ((pre ++ [v]) ++ (old ++ post)).toArray := by
        subst hp
        simp
      rw [e] at h1
      have h2 := ih (pre ++ [v]) old post (o + 1) (w.setCell ⟨b, o, none⟩ v) (by simp [hp]) (by simpa using hl) h1
      rw [List.append_assoc] at h2
      exact h2
def updP (f : Nat → Pt) (i : Nat) (p : Pt) (j : Nat) : Pt := if j = i then p else f j
section
variable {ops : Array Oper} {rest : List Oper} {o : Oper} {a : Act} {w0 w : World} {Q : Exit → Act → World → Prop} {bs : List (Nat × Array Value × TypeId)}
/-- One point of the table is written. -/
theorem s_store_t (F : BK w0 w bs) (hg : o.guard = none) {x y : Operand} (ho : o.op = .store 262 x y) (i : Nat) {b : Nat} {f : Nat → Pt} {t : TypeId} (hi : bs[i]? = some (b, tabC f, t)) (k : Nat) (hk : k < 16) (hx : a.eval x = .pointer (some ⟨b, k * 20, none⟩))
    (v : Pt) (hy : a.eval y = .agg v.cs) (h : ∀ w', BK w0 w' (bs.set i (b, tabC (updP f k v), t)) → wpList Tryz.prog ops Q rest (a.put o.dst undef) w') : wpList Tryz.prog ops Q (o :: rest) a w := by
  rw [Nat.mul_comm] at hx
  have hrow := F.mem hi
  have hcell : ∀ j, j < 20 → w.cell? ⟨b, 20 * k + j, none⟩ ≠ none := fun j hj => by
    rw [cell_of_row w b _ _ _ _ hrow, tabC_part f hk j hj, List.getElem?_eq_getElem (h := hj)]
    simp
  refine wpList_store_mid hg 262 x y ho b (20 * k) v.cs hx hy (fun j hj => ?_) (by kernel_rfl) (Pt.cells _) (h _ (F.set_of i hi (below_setCells _ _ _ F.below (F.own _ (List.mem_of_getElem? hi))) ?_ (fun _ hk => heap_setCells_ne hk _ _ _)))
  · refine ⟨?_, frozen_row hrow _⟩
    cases hc : w.cell? ⟨b, 20 * k + j, none⟩ with
    | none => exact absurd hc (hcell j hj)
    | some _ => rfl
  · have hrow' : w.heap[b]? = some (.cells (tabR f 0 k ++ ((f k).cs.toList ++ tabR f (k + 1) (15 - k))).toArray t (0, 0)) := by rw [← tabC_cut f hk]; exact hrow
    have h1 := heap_setCells_mid v.cs.toList (tabR f 0 k) (f k).cs.toList (tabR f (k + 1) (15 - k)) (20 * k) w (tabR_len _ _ _) rfl hrow'
    have e : (tabR f 0 k ++ (v.cs.toList ++ tabR f (k + 1) (15 - k))).toArray = tabC (updP f k v) := by
      unfold tabC
      rw [tabC_cut (updP f k v) hk, show updP f k v k = v from if_pos rfl, tabR_same k 0 (f := updP f k v) (g := f) (fun j _ h2 => if_neg (by omega)), tabR_same (15 - k) (k + 1) (f := updP f k v) (g := f) (fun j h1 _ => if_neg (by omega))]
    rw [e] at h1
    exact h1
theorem BK.lt16 (h : BK w0 w bs) (i : Nat) {b : Nat} {f : Nat → Pt} {t : TypeId} (hi : bs[i]? = some (b, tabC f, t)) (k : Nat) (hk : k < 16) : ∀ w', Below w.heap.size w w' → w'.rangeAt b (k * 20) (f k).cs.toList := fun _ hb => by
  rw [Nat.mul_comm]
  exact rangeAt_part ((h.later hb).mem hi) (20 * k) _ (fun j hj => tabC_part f hk j hj)
end
/-- The table so far. -/
def tabF (p : Pt) (k i : Nat) : Pt := if i < k then tabP p i else nilP
theorem tabF_two (p : Pt) : updP (updP (fun _ => nilP) 0 originP) 1 p = tabF p 2 := by
  funext i
  unfold updP tabF
  by_cases h1 : i = 1
  · subst h1; rfl
  · rw [if_neg h1]
    by_cases h0 : i = 0
    · subst h0; rfl
    · rw [if_neg h0, if_neg (by omega)]
theorem tabF_upd (p : Pt) (k : Nat) : updP (tabF p k) k (tabP p k) = tabF p (k + 1) := by
  funext i
  unfold updP tabF
  by_cases h1 : i = k
  · subst h1; rw [if_pos rfl, if_pos (by omega)]
  · rw [if_neg h1]
    by_cases h0 : i < k
    · rw [if_pos h0, if_pos (by omega)]
    · rw [if_neg h0, if_neg (by omega)]
theorem plusP_ok (p q : Pt) : (plusP p q).ok := ⟨times_ok _ _, times_ok _ _, times_ok _ _, times_ok _ _⟩
theorem doubleP_ok (p : Pt) : (doubleP p).ok := ⟨times_ok _ _, times_ok _ _, times_ok _ _, times_ok _ _⟩
theorem originP_ok : originP.ok := ⟨nil_ok, one_ok, one_ok, nil_ok⟩
theorem baseP_ok : baseP.ok := ⟨bx_ok, by_ok, one_ok, times_ok _ _⟩
theorem tabP_ok {p : Pt} (hp : p.ok) : ∀ k, (tabP p k).ok
  | 0 => originP_ok
  | 1 => hp
  | _ + 2 => plusP_ok _ _
theorem tabP_succ (p : Pt) {k : Nat} (hk : 2 ≤ k) : tabP p k = plusP (tabP p (k - 1)) p := by
  obtain ⟨m, rfl⟩ : ∃ m, k = m + 2 := ⟨k - 2, by omega⟩
  rfl
/-- The multiple so far: from the j-th byte upwards. -/
def accP (p : Pt) (n : List UInt8) (j : Nat) : Pt := (digits (n.drop j)).foldl (stepP p) originP
theorem accP_end (p : Pt) {n : List UInt8} (h : n.length = 32) : accP p n 32 = originP := by
  unfold accP
  rw [List.drop_of_length_le (by omega)]
  rfl
theorem accP_step (p : Pt) {n : List UInt8} {j : Nat} (hj : j < n.length) : accP p n j = stepP p (stepP p (accP p n (j + 1)) ((n.getD j 0).toNat / 16)) ((n.getD j 0).toNat % 16) := by
  unfold accP
  rw [List.drop_eq_getElem_cons hj, digits, List.foldl_append]
  simp [hj]
theorem accP_zero (p : Pt) (n : List UInt8) : accP p n 0 = timesP p n := rfl
theorem stepP_ok (p q : Pt) (d : Nat) : (stepP p q d).ok := plusP_ok _ _
theorem accP_ok (p : Pt) {n : List UInt8} {j : Nat} : (accP p n j).ok := by
  unfold accP
  have key : ∀ (l : List Nat) (q : Pt), q.ok → (l.foldl (stepP p) q).ok := by
    intro l
    induction l with
    | nil => exact fun q h => h
    | cons d l ih => exact fun q _ => ih _ (stepP_ok _ _ _)
  exact key _ _ originP_ok
end Go.Proofs.YtbcpmnnlhdgbhaaGreatDoor

namespace Go.Proofs.YtbcpmnnlhdgbhaaGreatDoor
open Go.RowKit Go.Lib
/-- A row whose cells from off on are those. -/
def putPart (c : Array Value) (off : Nat) (l : List Value) : Array Value := (c.toList.take off ++ l ++ c.toList.drop (off + l.length)).toArray
theorem putPart_mid (a b d l : List Value) (off : Nat) (ha : a.length = off) (hl : l.length = b.length) : putPart (a ++ (b ++ d)).toArray off l = (a ++ (l ++ d)).toArray := by
  subst ha
  unfold putPart
  rw [List.toList_toArray, List.take_left, hl, ← List.append_assoc a b d, show a.length + b.length = (a ++ b).length from by simp, List.drop_left, List.append_assoc]
section
variable {ops : Array Oper} {rest : List Oper} {o : Oper} {a : Act} {w0 w : World} {Q : Exit → Act → World → Prop} {bs : List (Nat × Array Value × TypeId)}
theorem BK.putPart (F : BK w0 w bs) (i : Nat) {b : Nat} {c : Array Value} {t : TypeId} (hi : bs[i]? = some (b, c, t)) (off : Nat) (v : List Value) (hfit : off + v.length ≤ c.size) : BK w0 (w.setCells b off v) (bs.set i (b, Go.Proofs.YtbcpmnnlhdgbhaaGreatDoor.putPart c off v, t)) := by
  have hrow : w.heap[b]? = some (.cells c t (0, 0)) := F.mem hi
  have hfit' : off + v.length ≤ c.toList.length := by rw [Array.length_toList]; exact hfit
  refine F.set_of i hi (below_setCells _ _ _ F.below (F.own _ (List.mem_of_getElem? hi))) ?_ (fun _ hk => heap_setCells_ne hk _ _ _)
  have e : c = (c.toList.take off ++ ((c.toList.drop off).take v.length ++ c.toList.drop (off + v.length))).toArray := by
    apply Array.ext'
    rw [List.toList_toArray, ← List.drop_drop, List.take_append_drop, List.take_append_drop]
  rw [e] at hrow
  have h1 := heap_setCells_mid v (c.toList.take off) ((c.toList.drop off).take v.length) (c.toList.drop (off + v.length)) off w (by rw [List.length_take]; omega) (by rw [List.length_take, List.length_drop]; omega) hrow
  unfold Go.Proofs.YtbcpmnnlhdgbhaaGreatDoor.putPart
  rw [List.append_assoc]
  exact h1
/-- A part of a block is written. -/
theorem s_store_at (F : BK w0 w bs) (hg : o.guard = none) {ty : TypeId} {x y : Operand} (ho : o.op = .store ty x y) (i : Nat) {b : Nat} {c : Array Value} {t : TypeId} (hi : bs[i]? = some (b, c, t)) (off : Nat) (hx : a.eval x = .pointer (some ⟨b, off, none⟩))
    (v : Array Value) (hy : a.eval y = .agg v) (hfit : off + v.size ≤ c.size) (hsz : (Tryz.prog.info? ty).map (·.size) = some v.size) (h1 : v.all (·.oneCell') = true)
    (h : ∀ w', BK w0 w' (bs.set i (b, putPart c off v.toList, t)) → wpList Tryz.prog ops Q rest (a.put o.dst undef) w') : wpList Tryz.prog ops Q (o :: rest) a w := by
  have hrow : w.heap[b]? = some (.cells c t (0, 0)) := F.mem hi
  refine wpList_store_mid hg ty x y ho b off v hx hy (fun j hj => ?_) hsz h1 (h _ (F.putPart i hi off v.toList (by rw [Array.length_toList]; exact hfit)))
  refine ⟨?_, frozen_row hrow _⟩
  rw [cell_of_row w b _ _ _ _ hrow, Array.getElem?_eq_getElem (by omega)]
  simp
/-- Bytes are copied into a part of a block. -/
theorem s_copy (F : BK w0 w bs) (hg : o.guard = none) {x y : Operand} (ho : o.op = .call { callee := .builtin .copy, args := #[x, y], argTypes := #[96, 96] }) (i : Nat) {b : Nat} {c : Array Value} {t : TypeId} (hi : bs[i]? = some (b, c, t)) {off n cap c2 B : Nat} {A : Option Addr} {news : List UInt8}
    (hx : a.eval x = .slice (some ⟨b, off, none⟩) n cap) (hy : a.eval y = .slice A n c2) (hr : Reads w B 1 A n (bvs news)) (hlen : news.length = n) (hfit : off + n ≤ c.size)
    (h : ∀ w', BK w0 w' (bs.set i (b, putPart c off (bvs news), t)) → wpList Tryz.prog ops Q rest (a.put o.dst (goInt n)) w') : wpList Tryz.prog ops Q (o :: rest) a w := by
  refine wpList_plain hg fun K hK => ?_
  have hrow0 : w.heap[b]? = some (.cells c t (0, 0)) := F.mem hi
  obtain ⟨w1, hrun, hrow, hf, hsz⟩ := copy_row (off := off) (n := n) (c := cap) (c2 := c2) hrow0 hr hlen hfit
  have hF := F.frm i hi hf hrow
  have hm : Nat.min n n = n := Nat.min_self n
  rw [hm] at hrun hF
  rw [List.take_of_length_le (l := news) (by omega)] at hF
  have e : (c.toList.take off ++ bvs news ++ c.toList.drop (off + n)).toArray = putPart c off (bvs news) := by unfold putPart; rw [bvs_length, hlen]
  rw [e] at hF
  have h2 := hK _ _ (h w1 hF)
  have hrun' := hrun o.type
  unfold Oper.wp execOp
  simp only [ho, resolve, invoke, builtin, Sem.run_bind, Sem.run_pure, Result.andThen_ok, List.map_toArray, List.map_cons, List.map_nil, hx, hy, hrun']
  exact h2
end
theorem slAll32 (g o : Nat) (w : World) : (Instr.sliceAt 31 (.pointer (some ⟨g, o, none⟩)) none none none).run Tryz.prog w = .ok (.slice (some ⟨g, o, none⟩) 32 32) w := by
  have e64 : Tryz.prog.arrayLen 31 = 32 := by kernel_rfl
  have h1 := run_sliceAt_array_all (P := Tryz.prog) w 31 ⟨g, o, none⟩ (by kernel_rfl)
  have hs : (sizeOf (Tryz.prog.elem 31)).run Tryz.prog w = .ok 1 w := by kernel_rfl
  rw [h1, hs, Result.andThen_ok, e64]
  unfold slicedAt
  rw [if_neg (by omega), add_none, Nat.zero_mul, Nat.add_zero]
/-- Bytes that lie in a part of a block. -/
theorem BK.reads {w0 w : World} {bs : List (Nat × Array Value × TypeId)} (F : BK w0 w bs) (i : Nat) {b : Nat} {c : Array Value} {t : TypeId} (hi : bs[i]? = some (b, c, t)) (off n : Nat) (l : List UInt8) (hl : l.length = n) (hp : ∀ j, j < n → c[off + j]? = (bvs l)[j]?) : Reads w w.heap.size 1 (some ⟨b, off, none⟩) n (bvs l) := by
  refine ⟨by rw [bvs_length]; omega, fun _ => ⟨_, rfl, lt_of_heap (F.mem hi), fun j u hu => ?_⟩⟩
  have hj : j < n := by have := (List.getElem?_eq_some_iff.1 hu).1; rw [bvs_length] at this; omega
  rw [add_none, cell_of_row w b _ _ _ _ (F.mem hi), hp j hj]
  exact hu
/-- A result that lies in a block. -/
theorem ret_row {w : World} {b : Nat} {cs : Array Value} {T ty : TypeId} {d : TypeDesc} (h : w.heap[b]? = some (.cells cs T (0, 0))) (hu : Tryz.prog.underlying ty = some d) (hrow : d.isRow = true) (hsz : (Tryz.prog.info? ty).map (·.size) = some cs.size) : (loadVar ty ⟨b, 0, none⟩).run Tryz.prog w = .ok (.agg cs) w := by
  have h1 := run_loadVar_mid (P := Tryz.prog) w b 0 ty cs.toList d (range_row h) hu hrow (by rw [Array.length_toList]; exact hsz)
  rw [Array.toArray_toList] at h1
  exact h1
end Go.Proofs.YtbcpmnnlhdgbhaaGreatDoor
