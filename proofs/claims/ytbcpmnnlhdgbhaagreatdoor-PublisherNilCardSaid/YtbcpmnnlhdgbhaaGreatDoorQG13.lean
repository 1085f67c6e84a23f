/- The texts PE10 PE2 of this work, merged by wip/merge.py. No conditions. -/
import Derived.Test.YtbcpmnnlhdgbhaaGreatDoorQG11
import Derived.Test.YtbcpmnnlhdgbhaaGreatDoorQG12
namespace Go.Proofs.YtbcpmnnlhdgbhaaGreatDoor
open Go.RowKit Go.Lib
theorem bytesE_len (x : E5) : (bytesE x).length = 32 := by rw [bytesE_eq]; exact genL_length _ _
theorem run_index_b (b : UInt8) (r : List UInt8) (w : World) : (Instr.index 31 (.agg (bvs (b :: r)).toArray) (.int .i64 0)).run Tryz.prog w = .ok (.int .u8 (b.toNat : Int)) w := by
  change _ = _
  kernel_rfl
theorem odd_bool : ∀ b : UInt8, (bits BinOp.and IntKind.u8 (b.toNat : Int) 1 == (1 : Int)) = decide (b % 2 = 1) := by
  have h : ∀ n : Fin 256, (bits BinOp.and IntKind.u8 ((UInt8.ofNat n.val).toNat : Int) 1 == (1 : Int)) = decide (UInt8.ofNat n.val % 2 = 1) := by decide +kernel
  intro b
  have := h ⟨b.toNat, b.toNat_lt⟩
  simpa using this
theorem odd_at (l : List UInt8) (hl : l.length = 32) (w : World) : (Instr.index 31 (.agg (bvs l).toArray) (.int .i64 0)).run Tryz.prog w = .ok (.int .u8 ((l.getD 0 0).toNat : Int)) w := by
  cases l with
  | nil => cases hl
  | cons b r => exact run_index_b b r w
def oddE (x : E5) : Bool := decide ((bytesE x).getD 0 0 % 2 = 1)
set_option maxRecDepth 100000 in
set_option maxHeartbeats 1000000 in
theorem odd_any (x : E5) (hx : x.ok) (w : World) : Calls Tryz.prog 201 #[.agg x.cs] w (fun e w' => e = .returned (.bool (oddE x)) ∧ Below w.heap.size w w') := by
  have F0 := Lib.hid (BK.start w)
  have C1 : Hid (∀ w, Calls Tryz.prog 200 #[.agg x.cs] w (BRet (bytesE x) w)) := fun w => bytesE_any x hx w
  obtain ⟨l, hl⟩ : ∃ l, l = bytesE x := ⟨_, rfl⟩
  have hidx := odd_at l (by rw [hl]; exact bytesE_len x)
  have hb := odd_bool (l.getD 0 0)
  obtain ⟨r, hr⟩ : ∃ r, r = oddE x := ⟨_, rfl⟩
  rw [show decide (l.getD 0 0 % 2 = 1) = r from by rw [hr, hl]; rfl] at hb
  rw [← hr]
  rw [← hl] at C1
  clear hl hr hx
  obtain ⟨b, hbb⟩ : ∃ b, b = l.getD 0 0 := ⟨_, rfl⟩
  rw [← hbb] at hidx hb
  obtain ⟨v, hv⟩ : ∃ v, v = (bvs l).toArray := ⟨_, rfl⟩
  have hret : Hid (∀ w, Calls Tryz.prog 200 #[.agg x.cs] w (fun e w' => e = .returned (.agg v) ∧ Below w.heap.size w w')) := by rw [hv]; exact C1
  rw [← hv] at hidx
  clear hbb hv C1
  go_enter Tryz.func201, Tryz.ntmps201
  go_wp2_with (first
    | (have hx_ := F0; refine s_box hx_.out rfl rfl rfl rfl ?_; clear F0 hx_; intro w1 b1 h1 _; have F1 := Lib.hid h1; clear h1)
    | (refine s_load_e rfl rfl x rfl (F1.out.le 0 rfl) ?_)
    | (go_at_call 200; refine (hret.out _).mono ?_; rintro e w3 ⟨rfl, hb3⟩; have F3 := Lib.hid (F1.out.later hb3); clear hb3 F1))
  exact bodyPost_ret (v := .bool r) (by simp [results, Tryz.results201]) rfl ⟨rfl, F3.out.below⟩
theorem setL (l : List UInt8) (hl : l.length = 32) : (bvs l).toArray.setIfInBounds 31 (.int .u8 (bits BinOp.or IntKind.u8 ((l.getD 31 0).toNat : Int) 128)) = (bvs (l.set 31 (l.getD 31 0 ||| 128))).toArray := by
  have h : ∀ b : UInt8, Value.int .u8 (bits BinOp.or IntKind.u8 (b.toNat : Int) 128) = bv (b ||| 128) := by
    have h0 : ∀ n : Fin 256, bits BinOp.or IntKind.u8 ((UInt8.ofNat n.val).toNat : Int) 128 = (((UInt8.ofNat n.val) ||| 128).toNat : Int) := by decide +kernel
    intro b
    have := h0 ⟨b.toNat, b.toNat_lt⟩
    simp only [UInt8.ofNat_toNat] at this
    unfold bv
    rw [this]
  rw [h]
  apply Array.ext_getElem?
  intro i
  rw [Array.getElem?_setIfInBounds]
  simp only [bvs, List.getElem?_toArray, List.getElem?_map, List.getElem?_set, List.size_toArray, List.length_map, hl]
  by_cases e : 31 = i
  · subst e; simp
  · rw [if_neg e, if_neg e]
set_option maxRecDepth 100000 in
set_option maxHeartbeats 1000000 in
theorem bytesP_any (p : Pt) (hp : p.ok) (w : World) : Calls Tryz.prog 151 #[.agg p.cs] w (BRet (bytesP p) w) := by
  obtain ⟨hpx, hpy, hpz, _⟩ := hp
  obtain ⟨z, hz⟩ : ∃ v, v = invE p.z := ⟨_, rfl⟩
  have Oz : Hid z.ok := by show z.ok; rw [hz]; exact times_ok _ _
  have Cz : Hid (∀ w, Calls Tryz.prog 198 #[.agg p.z.cs] w (ERet z w)) := fun w => by rw [hz]; exact Inverse_any p.z hpz w
  obtain ⟨y, hy⟩ : ∃ v, v = timesE p.y z := ⟨_, rfl⟩
  have Cy : Hid (∀ w, Calls Tryz.prog 199 #[.agg p.y.cs, .agg z.cs] w (ERet y w)) := fun w => by rw [hy]; exact Times_any p.y z hpy Oz.out w
  obtain ⟨x, hx⟩ : ∃ v, v = timesE p.x z := ⟨_, rfl⟩
  have Cx : Hid (∀ w, Calls Tryz.prog 199 #[.agg p.x.cs, .agg z.cs] w (ERet x w)) := fun w => by rw [hx]; exact Times_any p.x z hpx Oz.out w
  obtain ⟨l, hl⟩ : ∃ l, l = bytesE y := ⟨_, rfl⟩
  have Hl : Hid (l.length = 32) := by show _ = _; rw [hl]; exact bytesE_len y
  have Cb : Hid (∀ w, Calls Tryz.prog 200 #[.agg y.cs] w (BRet l w)) := fun w => by rw [hl]; exact bytesE_any y (by rw [hy]; exact times_ok _ _) w
  obtain ⟨d, hd⟩ : ∃ d, d = oddE x := ⟨_, rfl⟩
  have Co : Hid (∀ w, Calls Tryz.prog 201 #[.agg x.cs] w (fun e w' => e = .returned (.bool d) ∧ Below w.heap.size w w')) := fun w => by rw [hd]; exact odd_any x (by rw [hx]; exact times_ok _ _) w
  have HR : Hid (bytesP p = if d = true then l.set 31 (l.getD 31 0 ||| 128) else l) := by
    show _ = _
    subst hd hl hx hy hz
    unfold bytesP oddE
    simp only [decide_eq_true_eq]
  rw [HR.out]
  clear hd hl hx hy hz hpx hpy hpz HR
  have F0 := Lib.hid (BK.start w)
  have T0 : Hid True := trivial
  have hz32 : ∀ w, (zeroValue 31).run Tryz.prog w = .ok (.agg (bvs (List.replicate 32 0)).toArray) w := fun w => by kernel_rfl
  have HSL := Lib.hid (setL l Hl.out)
  obtain ⟨m, hm⟩ : ∃ m, m = l.set 31 (l.getD 31 0 ||| 128) := ⟨_, rfl⟩
  have Hm : Hid (m.length = 32) := by show _ = _; rw [hm]; simp [Hl.out]
  rw [← hm] at HSL ⊢
  clear hm
  have c31 : ∀ (w : World) (b : Nat) (t : TypeId), w.heap[b]? = some (.cells (bvs l).toArray t (0, 0)) → w.cell? ⟨b, 31, none⟩ = some (.int .u8 ((l.getD 31 0).toNat : Int)) := fun w b t h => by
    rw [cell_of_row w b 31 _ _ _ h]
    have := Hl.out
    simp [bvs, bv, this]
  obtain ⟨bt, hbt⟩ : ∃ b, b = l.getD 31 0 := ⟨_, rfl⟩
  rw [← hbt] at HSL c31
  have HC31 := Lib.hid c31
  clear c31 hbt
  cases d with
  | true =>
    go_enter Tryz.func151, Tryz.ntmps151
    go_wp2_with (first
      | (have hx_ := T0; refine s_box F0.out rfl rfl rfl rfl ?_; clear T0 hx_; intro w1 b1 h1 _; have F1 := Lib.hid h1; clear h1 F0; have T1 : Hid True := trivial)
      | (have hx_ := T1; refine s_alloc F1.out rfl rfl hz32 rfl ?_; clear T1 hx_; intro w2 b2 h1 _; have F2 := Lib.hid h1; clear h1 F1; have T2 : Hid True := trivial)
      | (have hx_ := T2; refine s_load_e rfl rfl p.z rfl (F2.out.lz 1 rfl) ?_; clear T2 hx_; have T3 : Hid True := trivial)
      | (go_at_call 198; have hx_ := T3; refine (Cz.out _).mono ?_; clear hx_ T3; rintro e w3 ⟨rfl, hb⟩; have F3 := Lib.hid (F2.out.later hb); clear hb F2; have T4 : Hid True := trivial)
      | (have hx_ := T4; refine s_alloc F3.out rfl rfl zeroE rfl ?_; clear T4 hx_; intro w4 b4 h1 _; have F4 := Lib.hid h1; clear h1 F3; have T5 : Hid True := trivial)
      | (have hx_ := T5; refine s_store F4.out rfl rfl 0 rfl rfl z.cs rfl rfl (by kernel_rfl) (E5.cells _) ?_; clear hx_ T5; intro w5 h1; have F5 := Lib.hid h1; clear h1 F4; have T6 : Hid True := trivial)
      | (have hx_ := T6; refine s_load_e rfl rfl p.y rfl (F5.out.ly 2 rfl) ?_; clear T6 hx_; have T7 : Hid True := trivial)
      | (have hx_ := T7; refine s_load_e rfl rfl z rfl (F5.out.le 0 rfl) ?_; clear T7 hx_; have T8 : Hid True := trivial)
      | (go_at_call 199; have hx_ := T8; refine (Cy.out _).mono ?_; clear hx_ T8; rintro e w6 ⟨rfl, hb⟩; have F6 := Lib.hid (F5.out.later hb); clear hb F5; have T9 : Hid True := trivial)
      | (go_at_call 200; have hx_ := T9; refine (Cb.out _).mono ?_; clear hx_ T9; rintro e w7 ⟨rfl, hb⟩; have F7 := Lib.hid (F6.out.later hb); clear hb F6; have T10 : Hid True := trivial)
      | (have hx_ := T10; refine s_alloc F7.out rfl rfl hz32 rfl ?_; clear T10 hx_; intro w8 b8 h1 _; have F8 := Lib.hid h1; clear h1 F7; have T11 : Hid True := trivial)
      | (have hx_ := T11; refine s_store_b F8.out rfl rfl 0 rfl rfl l Hl.out rfl rfl ?_; clear hx_ T11; intro w9 h1; have F9 := Lib.hid h1; clear h1 F8; have T12 : Hid True := trivial)
      | (have hx_ := T12; refine s_load_e rfl rfl p.x rfl (F9.out.lx 3 rfl) ?_; clear T12 hx_; have T13 : Hid True := trivial)
      | (have hx_ := T13; refine s_load_e rfl rfl z rfl (F9.out.le 1 rfl) ?_; clear T13 hx_; have T14 : Hid True := trivial)
      | (go_at_call 199; have hx_ := T14; refine (Cx.out _).mono ?_; clear hx_ T14; rintro e w10 ⟨rfl, hb⟩; have F10 := Lib.hid (F9.out.later hb); clear hb F9; have T15 : Hid True := trivial)
      | (go_at_call 201; have hx_ := T15; refine (Co.out _).mono ?_; clear hx_ T15; rintro e w11 ⟨rfl, hb⟩; have F11 := Lib.hid (F10.out.later hb); clear hb F10; have c31 := HC31.out _ _ _ (F11.out.mem (i := 0) rfl); have T16 : Hid True := trivial)
      | (have hx_ := T16; refine s_set8 F11.out rfl rfl 0 rfl 31 (by rw [bvs_size, Hl.out]; decide) rfl _ rfl ?_; clear hx_ T16 c31; intro w12 h1; simp only [List.set_cons_zero] at h1; rw [HSL.out] at h1; have F12 := Lib.hid h1; clear h1 F11; have T17 : Hid True := trivial)
      | (have hx_ := T17; refine s_load_b rfl rfl m Hm.out rfl (F12.out.lb 0 rfl) ?_; clear T17 hx_; have T18 : Hid True := trivial)
      | (have hx_ := T18; refine s_store_b F12.out rfl rfl 2 rfl rfl m Hm.out rfl rfl ?_; clear hx_ T18; intro w13 h1; have F13 := Lib.hid h1; clear h1 F12))
    exact bodyPost_ret (v := .agg (bvs m).toArray) (by simp [results, Tryz.results151, asAddr]; exact ret32 Hm.out (F13.out.mem (i := 2) rfl)) rfl ⟨rfl, F13.out.below⟩
  | false =>
    go_enter Tryz.func151, Tryz.ntmps151
    go_wp2_with (first
      | (have hx_ := T0; refine s_box F0.out rfl rfl rfl rfl ?_; clear T0 hx_; intro w1 b1 h1 _; have F1 := Lib.hid h1; clear h1 F0; have T1 : Hid True := trivial)
      | (have hx_ := T1; refine s_alloc F1.out rfl rfl hz32 rfl ?_; clear T1 hx_; intro w2 b2 h1 _; have F2 := Lib.hid h1; clear h1 F1; have T2 : Hid True := trivial)
      | (have hx_ := T2; refine s_load_e rfl rfl p.z rfl (F2.out.lz 1 rfl) ?_; clear T2 hx_; have T3 : Hid True := trivial)
      | (go_at_call 198; have hx_ := T3; refine (Cz.out _).mono ?_; clear hx_ T3; rintro e w3 ⟨rfl, hb⟩; have F3 := Lib.hid (F2.out.later hb); clear hb F2; have T4 : Hid True := trivial)
      | (have hx_ := T4; refine s_alloc F3.out rfl rfl zeroE rfl ?_; clear T4 hx_; intro w4 b4 h1 _; have F4 := Lib.hid h1; clear h1 F3; have T5 : Hid True := trivial)
      | (have hx_ := T5; refine s_store F4.out rfl rfl 0 rfl rfl z.cs rfl rfl (by kernel_rfl) (E5.cells _) ?_; clear hx_ T5; intro w5 h1; have F5 := Lib.hid h1; clear h1 F4; have T6 : Hid True := trivial)
      | (have hx_ := T6; refine s_load_e rfl rfl p.y rfl (F5.out.ly 2 rfl) ?_; clear T6 hx_; have T7 : Hid True := trivial)
      | (have hx_ := T7; refine s_load_e rfl rfl z rfl (F5.out.le 0 rfl) ?_; clear T7 hx_; have T8 : Hid True := trivial)
      | (go_at_call 199; have hx_ := T8; refine (Cy.out _).mono ?_; clear hx_ T8; rintro e w6 ⟨rfl, hb⟩; have F6 := Lib.hid (F5.out.later hb); clear hb F5; have T9 : Hid True := trivial)
      | (go_at_call 200; have hx_ := T9; refine (Cb.out _).mono ?_; clear hx_ T9; rintro e w7 ⟨rfl, hb⟩; have F7 := Lib.hid (F6.out.later hb); clear hb F6; have T10 : Hid True := trivial)
      | (have hx_ := T10; refine s_alloc F7.out rfl rfl hz32 rfl ?_; clear T10 hx_; intro w8 b8 h1 _; have F8 := Lib.hid h1; clear h1 F7; have T11 : Hid True := trivial)
      | (have hx_ := T11; refine s_store_b F8.out rfl rfl 0 rfl rfl l Hl.out rfl rfl ?_; clear hx_ T11; intro w9 h1; have F9 := Lib.hid h1; clear h1 F8; have T12 : Hid True := trivial)
      | (have hx_ := T12; refine s_load_e rfl rfl p.x rfl (F9.out.lx 3 rfl) ?_; clear T12 hx_; have T13 : Hid True := trivial)
      | (have hx_ := T13; refine s_load_e rfl rfl z rfl (F9.out.le 1 rfl) ?_; clear T13 hx_; have T14 : Hid True := trivial)
      | (go_at_call 199; have hx_ := T14; refine (Cx.out _).mono ?_; clear hx_ T14; rintro e w10 ⟨rfl, hb⟩; have F10 := Lib.hid (F9.out.later hb); clear hb F9; have T15 : Hid True := trivial)
      | (go_at_call 201; have hx_ := T15; refine (Co.out _).mono ?_; clear hx_ T15; rintro e w11 ⟨rfl, hb⟩; have F11 := Lib.hid (F10.out.later hb); clear hb F10; have T17 : Hid True := trivial)
      | (have hx_ := T17; refine s_load_b rfl rfl l Hl.out rfl (F11.out.lb 0 rfl) ?_; clear T17 hx_; have T18 : Hid True := trivial)
      | (have hx_ := T18; refine s_store_b F11.out rfl rfl 2 rfl rfl l Hl.out rfl rfl ?_; clear hx_ T18; intro w13 h1; have F13 := Lib.hid h1; clear h1 F11))
    exact bodyPost_ret (v := .agg (bvs l).toArray) (by simp [results, Tryz.results151, asAddr]; exact ret32 Hl.out (F13.out.mem (i := 2) rfl)) rfl ⟨rfl, F13.out.below⟩
end Go.Proofs.YtbcpmnnlhdgbhaaGreatDoor

namespace Go.Proofs.YtbcpmnnlhdgbhaaGreatDoor
open Go.RowKit Go.Lib
set_option maxRecDepth 100000 in
set_option maxHeartbeats 4000000 in
theorem plusP_any (p q : Pt) (hp : p.ok) (hq : q.ok) (w : World) : Calls Tryz.prog 203 #[.agg p.cs, .agg q.cs] w (PRet (plusP p q) w) := by
  obtain ⟨hpx, hpy, hpz, hpt⟩ := hp
  obtain ⟨hqx, hqy, hqz, hqt⟩ := hq
  obtain ⟨v17, h17⟩ : ∃ v, v = minusE p.y p.x := ⟨_, rfl⟩
  have O17 : Hid (v17.ok) := by show v17.ok; rw [h17]; exact minus_ok _ _
  have C17 : Hid (∀ w, Calls Tryz.prog 227 #[.agg p.y.cs, .agg p.x.cs] w (fun e w' => e = .returned (.agg v17.cs) ∧ Below w.heap.size w w')) := fun w => by rw [h17]; exact Minus_any p.y p.x hpx w
  obtain ⟨v22, h22⟩ : ∃ v, v = minusE q.y q.x := ⟨_, rfl⟩
  have O22 : Hid (v22.ok) := by show v22.ok; rw [h22]; exact minus_ok _ _
  have C22 : Hid (∀ w, Calls Tryz.prog 227 #[.agg q.y.cs, .agg q.x.cs] w (fun e w' => e = .returned (.agg v22.cs) ∧ Below w.heap.size w w')) := fun w => by rw [h22]; exact Minus_any q.y q.x hqx w
  obtain ⟨v23, h23⟩ : ∃ v, v = timesE v17 v22 := ⟨_, rfl⟩
  have O23 : Hid (v23.ok) := by show v23.ok; rw [h23]; exact times_ok _ _
  have C23 : Hid (∀ w, Calls Tryz.prog 199 #[.agg v17.cs, .agg v22.cs] w (fun e w' => e = .returned (.agg v23.cs) ∧ Below w.heap.size w w')) := fun w => by rw [h23]; exact Times_any v17 v22 O17.out O22.out w
  obtain ⟨v28, h28⟩ : ∃ v, v = plusE p.y p.x := ⟨_, rfl⟩
  have O28 : Hid (v28.ok) := by show v28.ok; rw [h28]; exact plus_ok _ _
  have C28 : Hid (∀ w, Calls Tryz.prog 229 #[.agg p.y.cs, .agg p.x.cs] w (fun e w' => e = .returned (.agg v28.cs) ∧ Below w.heap.size w w')) := fun w => by rw [h28]; exact Plus_any p.y p.x  w
  obtain ⟨v33, h33⟩ : ∃ v, v = plusE q.y q.x := ⟨_, rfl⟩
  have O33 : Hid (v33.ok) := by show v33.ok; rw [h33]; exact plus_ok _ _
  have C33 : Hid (∀ w, Calls Tryz.prog 229 #[.agg q.y.cs, .agg q.x.cs] w (fun e w' => e = .returned (.agg v33.cs) ∧ Below w.heap.size w w')) := fun w => by rw [h33]; exact Plus_any q.y q.x  w
  obtain ⟨v34, h34⟩ : ∃ v, v = timesE v28 v33 := ⟨_, rfl⟩
  have O34 : Hid (v34.ok) := by show v34.ok; rw [h34]; exact times_ok _ _
  have C34 : Hid (∀ w, Calls Tryz.prog 199 #[.agg v28.cs, .agg v33.cs] w (fun e w' => e = .returned (.agg v34.cs) ∧ Below w.heap.size w w')) := fun w => by rw [h34]; exact Times_any v28 v33 O28.out O33.out w
  obtain ⟨v37, h37⟩ : ∃ v, v = twiceE := ⟨_, rfl⟩
  have O37 : Hid (v37.ok) := by show v37.ok; rw [h37]; exact twice_ok
  have C37 : Hid (∀ w, Calls Tryz.prog 237 #[] w (fun e w' => e = .returned (.agg v37.cs) ∧ Below w.heap.size w w')) := fun w => by rw [h37]; exact twice_any w
  obtain ⟨v38, h38⟩ : ∃ v, v = timesE p.t v37 := ⟨_, rfl⟩
  have O38 : Hid (v38.ok) := by show v38.ok; rw [h38]; exact times_ok _ _
  have C38 : Hid (∀ w, Calls Tryz.prog 199 #[.agg p.t.cs, .agg v37.cs] w (fun e w' => e = .returned (.agg v38.cs) ∧ Below w.heap.size w w')) := fun w => by rw [h38]; exact Times_any p.t v37 hpt O37.out w
  obtain ⟨v41, h41⟩ : ∃ v, v = timesE v38 q.t := ⟨_, rfl⟩
  have O41 : Hid (v41.ok) := by show v41.ok; rw [h41]; exact times_ok _ _
  have C41 : Hid (∀ w, Calls Tryz.prog 199 #[.agg v38.cs, .agg q.t.cs] w (fun e w' => e = .returned (.agg v41.cs) ∧ Below w.heap.size w w')) := fun w => by rw [h41]; exact Times_any v38 q.t O38.out hqt w
  obtain ⟨v46, h46⟩ : ∃ v, v = timesE p.z q.z := ⟨_, rfl⟩
  have O46 : Hid (v46.ok) := by show v46.ok; rw [h46]; exact times_ok _ _
  have C46 : Hid (∀ w, Calls Tryz.prog 199 #[.agg p.z.cs, .agg q.z.cs] w (fun e w' => e = .returned (.agg v46.cs) ∧ Below w.heap.size w w')) := fun w => by rw [h46]; exact Times_any p.z q.z hpz hqz w
  obtain ⟨v49, h49⟩ : ∃ v, v = plusE v46 v46 := ⟨_, rfl⟩
  have O49 : Hid (v49.ok) := by show v49.ok; rw [h49]; exact plus_ok _ _
  have C49 : Hid (∀ w, Calls Tryz.prog 229 #[.agg v46.cs, .agg v46.cs] w (fun e w' => e = .returned (.agg v49.cs) ∧ Below w.heap.size w w')) := fun w => by rw [h49]; exact Plus_any v46 v46  w
  obtain ⟨v52, h52⟩ : ∃ v, v = minusE v34 v23 := ⟨_, rfl⟩
  have O52 : Hid (v52.ok) := by show v52.ok; rw [h52]; exact minus_ok _ _
  have C52 : Hid (∀ w, Calls Tryz.prog 227 #[.agg v34.cs, .agg v23.cs] w (fun e w' => e = .returned (.agg v52.cs) ∧ Below w.heap.size w w')) := fun w => by rw [h52]; exact Minus_any v34 v23 O23.out w
  obtain ⟨v55, h55⟩ : ∃ v, v = minusE v49 v41 := ⟨_, rfl⟩
  have O55 : Hid (v55.ok) := by show v55.ok; rw [h55]; exact minus_ok _ _
  have C55 : Hid (∀ w, Calls Tryz.prog 227 #[.agg v49.cs, .agg v41.cs] w (fun e w' => e = .returned (.agg v55.cs) ∧ Below w.heap.size w w')) := fun w => by rw [h55]; exact Minus_any v49 v41 O41.out w
  obtain ⟨v58, h58⟩ : ∃ v, v = plusE v49 v41 := ⟨_, rfl⟩
  have O58 : Hid (v58.ok) := by show v58.ok; rw [h58]; exact plus_ok _ _
  have C58 : Hid (∀ w, Calls Tryz.prog 229 #[.agg v49.cs, .agg v41.cs] w (fun e w' => e = .returned (.agg v58.cs) ∧ Below w.heap.size w w')) := fun w => by rw [h58]; exact Plus_any v49 v41  w
  obtain ⟨v61, h61⟩ : ∃ v, v = plusE v34 v23 := ⟨_, rfl⟩
  have O61 : Hid (v61.ok) := by show v61.ok; rw [h61]; exact plus_ok _ _
  have C61 : Hid (∀ w, Calls Tryz.prog 229 #[.agg v34.cs, .agg v23.cs] w (fun e w' => e = .returned (.agg v61.cs) ∧ Below w.heap.size w w')) := fun w => by rw [h61]; exact Plus_any v34 v23  w
  obtain ⟨v64, h64⟩ : ∃ v, v = timesE v52 v55 := ⟨_, rfl⟩
  have O64 : Hid (v64.ok) := by show v64.ok; rw [h64]; exact times_ok _ _
  have C64 : Hid (∀ w, Calls Tryz.prog 199 #[.agg v52.cs, .agg v55.cs] w (fun e w' => e = .returned (.agg v64.cs) ∧ Below w.heap.size w w')) := fun w => by rw [h64]; exact Times_any v52 v55 O52.out O55.out w
  obtain ⟨v67, h67⟩ : ∃ v, v = timesE v58 v61 := ⟨_, rfl⟩
  have O67 : Hid (v67.ok) := by show v67.ok; rw [h67]; exact times_ok _ _
  have C67 : Hid (∀ w, Calls Tryz.prog 199 #[.agg v58.cs, .agg v61.cs] w (fun e w' => e = .returned (.agg v67.cs) ∧ Below w.heap.size w w')) := fun w => by rw [h67]; exact Times_any v58 v61 O58.out O61.out w
  obtain ⟨v70, h70⟩ : ∃ v, v = timesE v55 v58 := ⟨_, rfl⟩
  have O70 : Hid (v70.ok) := by show v70.ok; rw [h70]; exact times_ok _ _
  have C70 : Hid (∀ w, Calls Tryz.prog 199 #[.agg v55.cs, .agg v58.cs] w (fun e w' => e = .returned (.agg v70.cs) ∧ Below w.heap.size w w')) := fun w => by rw [h70]; exact Times_any v55 v58 O55.out O58.out w
  obtain ⟨v73, h73⟩ : ∃ v, v = timesE v52 v61 := ⟨_, rfl⟩
  have O73 : Hid (v73.ok) := by show v73.ok; rw [h73]; exact times_ok _ _
  have C73 : Hid (∀ w, Calls Tryz.prog 199 #[.agg v52.cs, .agg v61.cs] w (fun e w' => e = .returned (.agg v73.cs) ∧ Below w.heap.size w w')) := fun w => by rw [h73]; exact Times_any v52 v61 O52.out O61.out w
  have HR : Hid (Pt.mk v64 v67 v70 v73 = plusP p q) := by show _ = _; subst h17 h22 h23 h28 h33 h34 h37 h38 h41 h46 h49 h52 h55 h58 h61 h64 h67 h70 h73; rfl
  clear h17 h22 h23 h28 h33 h34 h37 h38 h41 h46 h49 h52 h55 h58 h61 h64 h67 h70 h73
  have F0 := Lib.hid (BK.start w)
  have T0 : Hid True := trivial
  go_enter Tryz.func203, Tryz.ntmps203
  go_wp2_with (first
    | (have hx_ := T0; refine s_box F0.out rfl rfl rfl rfl ?_; intro w1 b1 h1 _; have F1 := Lib.hid h1; clear h1 F0; clear hx_ T0; have T1 : Hid True := trivial)
    | (have hx_ := T1; refine s_box F1.out rfl rfl rfl rfl ?_; intro w2 b2 h1 _; have F2 := Lib.hid h1; clear h1 F1; clear hx_ T1; have T2 : Hid True := trivial)
    | (have hx_ := T2; refine s_alloc F2.out rfl rfl zeroP rfl ?_; intro w3 b3 h1 _; have F3 := Lib.hid h1; clear h1 F2; clear hx_ T2; have T3 : Hid True := trivial))
  refine wp_region_walk 11 [(5, nilE.cs, 260)] (by kernel_rfl) (by kernel_rfl) (allocs_ok (by kernel_rfl) (fun x hx => by rw [List.mem_singleton.1 hx]; exact zeroE)) ?Af1 ?h1 ?hK1
  case h1 =>
    intro F hF hN
    try simp only [Act.put]
    try simp only [List.setIfInBounds_toArray, List.set_cons_succ, List.set_cons_zero]
    try simp only [List.append_eq]
    try simp only [List.cons_append, List.nil_append]
    simp only [List.take_succ_cons, List.take_zero]
    go_big_quiet_step (fail)
    go_big_quiet_want
    refine q_load_e rfl p.y rfl (F3.out.ly 2 rfl) ?_
    go_big_quiet_on
    simp only [Act.put, List.setIfInBounds_toArray, List.set_cons_succ, List.set_cons_zero]
    go_big_quiet_step (fail)
    go_big_quiet_want
    refine q_load_e rfl p.x rfl (F3.out.lx 2 rfl) ?_
    go_big_quiet_on
    simp only [Act.put, List.setIfInBounds_toArray, List.set_cons_succ, List.set_cons_zero]
    go_big_quiet_step (exact fs_call hF (C17.out _))
    go_big_quiet_step (fail)
    go_big_quiet_want
    refine q_load_e rfl q.y rfl (F3.out.ly 1 rfl) ?_
    go_big_quiet_on
    simp only [Act.put, List.setIfInBounds_toArray, List.set_cons_succ, List.set_cons_zero]
    go_big_quiet_step (fail)
    go_big_quiet_want
    refine q_load_e rfl q.x rfl (F3.out.lx 1 rfl) ?_
    go_big_quiet_on
    simp only [Act.put, List.setIfInBounds_toArray, List.set_cons_succ, List.set_cons_zero]
    go_big_quiet_step (exact fs_call hF (C22.out _))
    go_big_quiet_step (exact fs_call hF (C23.out _))
    refine wpQuiet_nil ?_
    exact rfl
  case hK1 =>
    intro w4 hb
    intro b5 hB5 hu5 hr5
    have F4 := Lib.hid (F3.out.foundAll hb [(b5, nilE.cs, 260)] (List.nodup_cons.2 ⟨hu5, List.nodup_nil⟩) (List.forall_mem_cons.2 ⟨⟨hB5, hr5⟩, fun _ h => (List.not_mem_nil h).elim⟩))
    clear hb hB5 hu5 hr5
    simp only [freshQ]
    try simp only [Act.put]
    try simp only [List.setIfInBounds_toArray, List.set_cons_succ, List.set_cons_zero]
    try simp only [List.append_eq]
    try simp only [List.cons_append, List.nil_append]
    simp only [List.length_cons, List.length_nil, Nat.reduceAdd, List.drop_succ_cons, List.drop_zero]
    have T3 : Hid True := trivial
    go_wp2_with (first
      | (have hx_ := T3; refine s_store F4.out rfl rfl 0 rfl rfl v23.cs rfl rfl (by kernel_rfl) (E5.cells _) ?_; intro w6 h1; have F5 := Lib.hid h1; clear h1 F4; clear hx_ T3; have T4 : Hid True := trivial))
    refine wp_region_walk 11 [(6, nilE.cs, 260)] (by kernel_rfl) (by kernel_rfl) (allocs_ok (by kernel_rfl) (fun x hx => by rw [List.mem_singleton.1 hx]; exact zeroE)) ?Af2 ?h2 ?hK2
    case h2 =>
      intro F hF hN
      try simp only [Act.put]
      try simp only [List.setIfInBounds_toArray, List.set_cons_succ, List.set_cons_zero]
      try simp only [List.append_eq]
      try simp only [List.cons_append, List.nil_append]
      simp only [List.take_succ_cons, List.take_zero]
      go_big_quiet_step (fail)
      go_big_quiet_want
      refine q_load_e rfl p.y rfl (F5.out.ly 3 rfl) ?_
      go_big_quiet_on
      simp only [Act.put, List.setIfInBounds_toArray, List.set_cons_succ, List.set_cons_zero]
      go_big_quiet_step (fail)
      go_big_quiet_want
      refine q_load_e rfl p.x rfl (F5.out.lx 3 rfl) ?_
      go_big_quiet_on
      simp only [Act.put, List.setIfInBounds_toArray, List.set_cons_succ, List.set_cons_zero]
      go_big_quiet_step (exact fs_call hF (C28.out _))
      go_big_quiet_step (fail)
      go_big_quiet_want
      refine q_load_e rfl q.y rfl (F5.out.ly 2 rfl) ?_
      go_big_quiet_on
      simp only [Act.put, List.setIfInBounds_toArray, List.set_cons_succ, List.set_cons_zero]
      go_big_quiet_step (fail)
      go_big_quiet_want
      refine q_load_e rfl q.x rfl (F5.out.lx 2 rfl) ?_
      go_big_quiet_on
      simp only [Act.put, List.setIfInBounds_toArray, List.set_cons_succ, List.set_cons_zero]
      go_big_quiet_step (exact fs_call hF (C33.out _))
      go_big_quiet_step (exact fs_call hF (C34.out _))
      refine wpQuiet_nil ?_
      exact rfl
    case hK2 =>
      intro w7 hb
      intro b8 hB8 hu8 hr8
      have F6 := Lib.hid (F5.out.foundAll hb [(b8, nilE.cs, 260)] (List.nodup_cons.2 ⟨hu8, List.nodup_nil⟩) (List.forall_mem_cons.2 ⟨⟨hB8, hr8⟩, fun _ h => (List.not_mem_nil h).elim⟩))
      clear hb hB8 hu8 hr8
      simp only [freshQ]
      try simp only [Act.put]
      try simp only [List.setIfInBounds_toArray, List.set_cons_succ, List.set_cons_zero]
      try simp only [List.append_eq]
      try simp only [List.cons_append, List.nil_append]
      simp only [List.length_cons, List.length_nil, Nat.reduceAdd, List.drop_succ_cons, List.drop_zero]
      have T4 : Hid True := trivial
      go_wp2_with (first
        | (have hx_ := T4; refine s_store F6.out rfl rfl 0 rfl rfl v34.cs rfl rfl (by kernel_rfl) (E5.cells _) ?_; intro w9 h1; have F7 := Lib.hid h1; clear h1 F6; clear hx_ T4; have T5 : Hid True := trivial))
      refine wp_region_walk 7 [(7, nilE.cs, 260)] (by kernel_rfl) (by kernel_rfl) (allocs_ok (by kernel_rfl) (fun x hx => by rw [List.mem_singleton.1 hx]; exact zeroE)) ?Af3 ?h3 ?hK3
      case h3 =>
        intro F hF hN
        try simp only [Act.put]
        try simp only [List.setIfInBounds_toArray, List.set_cons_succ, List.set_cons_zero]
        try simp only [List.append_eq]
        try simp only [List.cons_append, List.nil_append]
        simp only [List.take_succ_cons, List.take_zero]
        go_big_quiet_step (fail)
        go_big_quiet_want
        refine q_load_e rfl p.t rfl (F7.out.lt_ 4 rfl) ?_
        go_big_quiet_on
        simp only [Act.put, List.setIfInBounds_toArray, List.set_cons_succ, List.set_cons_zero]
        go_big_quiet_step (exact fs_call hF (C37.out _))
        go_big_quiet_step (exact fs_call hF (C38.out _))
        go_big_quiet_step (fail)
        go_big_quiet_want
        refine q_load_e rfl q.t rfl (F7.out.lt_ 3 rfl) ?_
        go_big_quiet_on
        simp only [Act.put, List.setIfInBounds_toArray, List.set_cons_succ, List.set_cons_zero]
        go_big_quiet_step (exact fs_call hF (C41.out _))
        refine wpQuiet_nil ?_
        exact rfl
      case hK3 =>
        intro w10 hb
        intro b11 hB11 hu11 hr11
        have F8 := Lib.hid (F7.out.foundAll hb [(b11, nilE.cs, 260)] (List.nodup_cons.2 ⟨hu11, List.nodup_nil⟩) (List.forall_mem_cons.2 ⟨⟨hB11, hr11⟩, fun _ h => (List.not_mem_nil h).elim⟩))
        clear hb hB11 hu11 hr11
        simp only [freshQ]
        try simp only [Act.put]
        try simp only [List.setIfInBounds_toArray, List.set_cons_succ, List.set_cons_zero]
        try simp only [List.append_eq]
        try simp only [List.cons_append, List.nil_append]
        simp only [List.length_cons, List.length_nil, Nat.reduceAdd, List.drop_succ_cons, List.drop_zero]
        have T5 : Hid True := trivial
        go_wp2_with (first
          | (have hx_ := T5; refine s_store F8.out rfl rfl 0 rfl rfl v41.cs rfl rfl (by kernel_rfl) (E5.cells _) ?_; intro w12 h1; have F9 := Lib.hid h1; clear h1 F8; clear hx_ T5; have T6 : Hid True := trivial)
          | (have hx_ := T6; refine s_load_e rfl rfl p.z rfl (F9.out.lz 5 rfl) ?_; clear hx_ T6; have T7 : Hid True := trivial)
          | (have hx_ := T7; refine s_load_e rfl rfl q.z rfl (F9.out.lz 4 rfl) ?_; clear hx_ T7; have T8 : Hid True := trivial)
          | (go_at_call 199; have hx_ := T8; refine (C46.out _).mono ?_; rintro e w13 ⟨rfl, hb⟩; have F10 := Lib.hid (F9.out.later hb); clear hb F9; clear hx_ T8; have T9 : Hid True := trivial)
          | (have hx_ := T9; refine s_alloc F10.out rfl rfl zeroE rfl ?_; intro w14 b14 h1 _; have F11 := Lib.hid h1; clear h1 F10; clear hx_ T9; have T10 : Hid True := trivial)
          | (have hx_ := T10; refine s_store F11.out rfl rfl 0 rfl rfl v46.cs rfl rfl (by kernel_rfl) (E5.cells _) ?_; intro w15 h1; have F12 := Lib.hid h1; clear h1 F11; clear hx_ T10; have T11 : Hid True := trivial)
          | (have hx_ := T11; refine s_load_e rfl rfl v46 rfl (F12.out.le 0 rfl) ?_; clear hx_ T11; have T12 : Hid True := trivial)
          | (have hx_ := T12; refine s_load_e rfl rfl v46 rfl (F12.out.le 0 rfl) ?_; clear hx_ T12; have T13 : Hid True := trivial)
          | (go_at_call 229; have hx_ := T13; refine (C49.out _).mono ?_; rintro e w16 ⟨rfl, hb⟩; have F13 := Lib.hid (F12.out.later hb); clear hb F12; clear hx_ T13; have T14 : Hid True := trivial)
          | (have hx_ := T14; refine s_store F13.out rfl rfl 0 rfl rfl v49.cs rfl rfl (by kernel_rfl) (E5.cells _) ?_; intro w17 h1; have F14 := Lib.hid h1; clear h1 F13; clear hx_ T14; have T15 : Hid True := trivial))
        refine wp_region_walk 12 [(9, nilE.cs, 260), (10, nilE.cs, 260), (11, nilE.cs, 260), (12, nilE.cs, 260)] (by kernel_rfl) (by kernel_rfl) (allocs_ok (by kernel_rfl) (fun x hx => by simp only [List.mem_cons, List.not_mem_nil, or_false] at hx; rcases hx with rfl | rfl | rfl | rfl <;> exact zeroE)) ?Af4 ?h4 ?hK4
        case h4 =>
          intro F hF hN
          try simp only [Act.put]
          try simp only [List.setIfInBounds_toArray, List.set_cons_succ, List.set_cons_zero]
          try simp only [List.append_eq]
          try simp only [List.cons_append, List.nil_append]
          simp only [List.take_succ_cons, List.take_zero]
          go_big_quiet_want
          refine q_load_e rfl v34 rfl (F14.out.le 2 rfl) ?_
          go_big_quiet_on
          simp only [Act.put, List.setIfInBounds_toArray, List.set_cons_succ, List.set_cons_zero]
          go_big_quiet_want
          refine q_load_e rfl v23 rfl (F14.out.le 3 rfl) ?_
          go_big_quiet_on
          simp only [Act.put, List.setIfInBounds_toArray, List.set_cons_succ, List.set_cons_zero]
          go_big_quiet_step (exact fs_call hF (C52.out _))
          go_big_quiet_want
          refine q_load_e rfl v49 rfl (F14.out.le 0 rfl) ?_
          go_big_quiet_on
          simp only [Act.put, List.setIfInBounds_toArray, List.set_cons_succ, List.set_cons_zero]
          go_big_quiet_want
          refine q_load_e rfl v41 rfl (F14.out.le 1 rfl) ?_
          go_big_quiet_on
          simp only [Act.put, List.setIfInBounds_toArray, List.set_cons_succ, List.set_cons_zero]
          go_big_quiet_step (exact fs_call hF (C55.out _))
          go_big_quiet_want
          refine q_load_e rfl v49 rfl (F14.out.le 0 rfl) ?_
          go_big_quiet_on
          simp only [Act.put, List.setIfInBounds_toArray, List.set_cons_succ, List.set_cons_zero]
          go_big_quiet_want
          refine q_load_e rfl v41 rfl (F14.out.le 1 rfl) ?_
          go_big_quiet_on
          simp only [Act.put, List.setIfInBounds_toArray, List.set_cons_succ, List.set_cons_zero]
          go_big_quiet_step (exact fs_call hF (C58.out _))
          go_big_quiet_want
          refine q_load_e rfl v34 rfl (F14.out.le 2 rfl) ?_
          go_big_quiet_on
          simp only [Act.put, List.setIfInBounds_toArray, List.set_cons_succ, List.set_cons_zero]
          go_big_quiet_want
          refine q_load_e rfl v23 rfl (F14.out.le 3 rfl) ?_
          go_big_quiet_on
          simp only [Act.put, List.setIfInBounds_toArray, List.set_cons_succ, List.set_cons_zero]
          go_big_quiet_step (exact fs_call hF (C61.out _))
          refine wpQuiet_nil ?_
          exact rfl
        case hK4 =>
          intro w18 hb
          intro b19 hB19 hu19 hr19
          intro b20 hB20 hu20 hr20
          intro b21 hB21 hu21 hr21
          intro b22 hB22 hu22 hr22
          have F15 := Lib.hid (F14.out.foundAll hb [(b22, nilE.cs, 260), (b21, nilE.cs, 260), (b20, nilE.cs, 260), (b19, nilE.cs, 260)] (List.nodup_cons.2 ⟨hu22, List.nodup_cons.2 ⟨hu21, List.nodup_cons.2 ⟨hu20, List.nodup_cons.2 ⟨hu19, List.nodup_nil⟩⟩⟩⟩) (List.forall_mem_cons.2 ⟨⟨hB22, hr22⟩, List.forall_mem_cons.2 ⟨⟨hB21, hr21⟩, List.forall_mem_cons.2 ⟨⟨hB20, hr20⟩, List.forall_mem_cons.2 ⟨⟨hB19, hr19⟩, fun _ h => (List.not_mem_nil h).elim⟩⟩⟩⟩))
          clear hb hB19 hu19 hr19 hB20 hu20 hr20 hB21 hu21 hr21 hB22 hu22 hr22
          simp only [freshQ]
          try simp only [Act.put]
          try simp only [List.setIfInBounds_toArray, List.set_cons_succ, List.set_cons_zero]
          try simp only [List.append_eq]
          try simp only [List.cons_append, List.nil_append]
          simp only [List.length_cons, List.length_nil, Nat.reduceAdd, List.drop_succ_cons, List.drop_zero]
          have T15 : Hid True := trivial
          go_wp2_with (first
            | (have hx_ := T15; refine s_store F15.out rfl rfl 3 rfl rfl v52.cs rfl rfl (by kernel_rfl) (E5.cells _) ?_; intro w23 h1; have F16 := Lib.hid h1; clear h1 F15; clear hx_ T15; have T16 : Hid True := trivial)
            | (have hx_ := T16; refine s_store F16.out rfl rfl 2 rfl rfl v55.cs rfl rfl (by kernel_rfl) (E5.cells _) ?_; intro w24 h1; have F17 := Lib.hid h1; clear h1 F16; clear hx_ T16; have T17 : Hid True := trivial)
            | (have hx_ := T17; refine s_store F17.out rfl rfl 1 rfl rfl v58.cs rfl rfl (by kernel_rfl) (E5.cells _) ?_; intro w25 h1; have F18 := Lib.hid h1; clear h1 F17; clear hx_ T17; have T18 : Hid True := trivial)
            | (have hx_ := T18; refine s_store F18.out rfl rfl 0 rfl rfl v61.cs rfl rfl (by kernel_rfl) (E5.cells _) ?_; intro w26 h1; have F19 := Lib.hid h1; clear h1 F18; clear hx_ T18; have T19 : Hid True := trivial))
          refine wp_region_walk 13 [] (by kernel_rfl) (by kernel_rfl) (allocs_ok (by kernel_rfl) (fun x hx => (List.not_mem_nil hx).elim)) ?Af5 ?h5 ?hK5
          case h5 =>
            intro F hF hN
            try simp only [Act.put]
            try simp only [List.setIfInBounds_toArray, List.set_cons_succ, List.set_cons_zero]
            try simp only [List.append_eq]
            try simp only [List.cons_append, List.nil_append]
            simp only [List.take_succ_cons, List.take_zero]
            go_big_quiet_want
            refine q_load_e rfl v52 rfl (F19.out.le 3 rfl) ?_
            go_big_quiet_on
            simp only [Act.put, List.setIfInBounds_toArray, List.set_cons_succ, List.set_cons_zero]
            go_big_quiet_want
            refine q_load_e rfl v55 rfl (F19.out.le 2 rfl) ?_
            go_big_quiet_on
            simp only [Act.put, List.setIfInBounds_toArray, List.set_cons_succ, List.set_cons_zero]
            go_big_quiet_step (exact fs_call hF (C64.out _))
            go_big_quiet_want
            refine q_load_e rfl v58 rfl (F19.out.le 1 rfl) ?_
            go_big_quiet_on
            simp only [Act.put, List.setIfInBounds_toArray, List.set_cons_succ, List.set_cons_zero]
            go_big_quiet_want
            refine q_load_e rfl v61 rfl (F19.out.le 0 rfl) ?_
            go_big_quiet_on
            simp only [Act.put, List.setIfInBounds_toArray, List.set_cons_succ, List.set_cons_zero]
            go_big_quiet_step (exact fs_call hF (C67.out _))
            go_big_quiet_want
            refine q_load_e rfl v55 rfl (F19.out.le 2 rfl) ?_
            go_big_quiet_on
            simp only [Act.put, List.setIfInBounds_toArray, List.set_cons_succ, List.set_cons_zero]
            go_big_quiet_want
            refine q_load_e rfl v58 rfl (F19.out.le 1 rfl) ?_
            go_big_quiet_on
            simp only [Act.put, List.setIfInBounds_toArray, List.set_cons_succ, List.set_cons_zero]
            go_big_quiet_step (exact fs_call hF (C70.out _))
            go_big_quiet_want
            refine q_load_e rfl v52 rfl (F19.out.le 3 rfl) ?_
            go_big_quiet_on
            simp only [Act.put, List.setIfInBounds_toArray, List.set_cons_succ, List.set_cons_zero]
            go_big_quiet_want
            refine q_load_e rfl v61 rfl (F19.out.le 0 rfl) ?_
            go_big_quiet_on
            simp only [Act.put, List.setIfInBounds_toArray, List.set_cons_succ, List.set_cons_zero]
            go_big_quiet_step (exact fs_call hF (C73.out _))
            go_big_quiet_want
            refine q_build_p rfl v64 v67 v70 v73 rfl rfl rfl rfl ?_
            go_big_quiet_on
            simp only [Act.put, List.setIfInBounds_toArray, List.set_cons_succ, List.set_cons_zero]
            refine wpQuiet_nil ?_
            exact rfl
          case hK5 =>
            intro w27 hb
            have F20 := Lib.hid (F19.out.later hb)
            clear hb
            simp only [freshQ]
            try simp only [Act.put]
            try simp only [List.setIfInBounds_toArray, List.set_cons_succ, List.set_cons_zero]
            try simp only [List.append_eq]
            try simp only [List.cons_append, List.nil_append]
            simp only [List.length_nil, Nat.reduceAdd, List.drop_succ_cons, List.drop_zero]
            have T19 : Hid True := trivial
            go_wp2_with (first
              | (have hx_ := T19; refine s_store F20.out rfl rfl 8 rfl rfl (Pt.mk v64 v67 v70 v73).cs rfl rfl (by kernel_rfl) (Pt.cells _) ?_; intro w28 h1; have F21 := Lib.hid h1; clear h1 F20; clear hx_ T19; have T20 : Hid True := trivial))
            exact bodyPost_ret (v := .agg (Pt.mk v64 v67 v70 v73).cs) (by simp [results, Tryz.results203, asAddr]; exact retP (F21.out.mem (i := 8) rfl)) rfl ⟨by rw [← HR.out], F21.out.below⟩
end Go.Proofs.YtbcpmnnlhdgbhaaGreatDoor
