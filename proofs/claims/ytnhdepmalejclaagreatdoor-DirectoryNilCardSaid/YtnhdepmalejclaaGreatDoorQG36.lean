/- The texts NT4 NT5 NT6 PT0 of this work, merged by wip/merge.py. No conditions. -/
import Derived.Test.YtnhdepmalejclaaGreatDoorQG35
import Derived.Test.YtnhdepmalejclaaGreatDoorQG11
namespace Go.Proofs.YtnhdepmalejclaaGreatDoor
open Go.RowKit Go.Lib
def eR : Nat := 7237005577332262213973186563042994240829374041602535252466099000494570602494
theorem nc_eR : (#[.int .u64 18446744073709551614, .int .u64 18446744073709551615, .int .u64 18446744073709551615, .int .u64 1152921504606846975] : Array Value) = nc eR := by kernel_rfl
theorem rootX_eq (a : Nat) : rootX a = if timesR (powerR a eR) (powerR a eR) % pR = a % pR then powerR a eR else timesR (powerR a eR) iR := rfl
theorem iR_lt : iR < 115792089237316195423570985008687907853269984665640564039457584007913129639936 := by decide
theorem rootX_lt {a : Nat} (ha : a < 115792089237316195423570985008687907853269984665640564039457584007913129639936) : rootX a < 115792089237316195423570985008687907853269984665640564039457584007913129639936 := by
  rw [rootX_eq]
  have h := powR_lt (e := eR) ha 256 1 (by decide)
  split
  · exact h
  · exact timesR_lt h iR_lt
set_option maxRecDepth 100000 in
set_option maxHeartbeats 2000000 in
theorem rootR_any (a : Nat) (ha : a < 115792089237316195423570985008687907853269984665640564039457584007913129639936) (w : World) : Calls Tryz.prog 144 #[.agg (nc a)] w (fun e w' => e = .returned (.tuple #[.agg (nc (rtR a).1), .bool (rtR a).2]) ∧ Below w.heap.size w w') := by
  have F0 := Lib.hid (BK.start w)
  have T0 : Hid True := trivial
  have HA := Lib.hid ha
  obtain ⟨x, hx⟩ : ∃ x, x = powerR a eR := ⟨_, rfl⟩
  have Ox : Hid (x < 115792089237316195423570985008687907853269984665640564039457584007913129639936) := by show x < _; rw [hx]; exact powR_lt ha 256 1 (by decide)
  have Cx : Hid (∀ w, Calls Tryz.prog 182 #[.agg (nc a), .agg (nc eR)] w (fun e w' => e = .returned (.agg (nc x)) ∧ Below w.heap.size w w')) := fun w => by rw [hx]; exact powerR_any a eR ha (by decide) w
  obtain ⟨u, hu⟩ : ∃ u, u = timesR x x := ⟨_, rfl⟩
  have Cu : Hid (∀ w, Calls Tryz.prog 143 #[.agg (nc x), .agg (nc x)] w (fun e w' => e = .returned (.agg (nc u)) ∧ Below w.heap.size w w')) := fun w => by rw [hu]; exact timesR_any x x Ox.out Ox.out w
  have Ou : Hid (u < 115792089237316195423570985008687907853269984665640564039457584007913129639936) := by show u < _; rw [hu]; exact timesR_lt Ox.out Ox.out
  obtain ⟨d, hd⟩ : ∃ d, d = decide (u % pR = a % pR) := ⟨_, rfl⟩
  have Cd : Hid (∀ w, Calls Tryz.prog 183 #[.agg (nc u), .agg (nc a)] w (fun e w' => e = .returned (.bool d) ∧ Below w.heap.size w w')) := fun w => by rw [hd]; exact sameR_any u a Ou.out ha w
  have Ci : Hid (∀ w, Calls Tryz.prog 184 #[] w (fun e w' => e = .returned (.agg (nc iR)) ∧ Below w.heap.size w w')) := fun w => iR_any w
  obtain ⟨y, hy⟩ : ∃ y, y = timesR x iR := ⟨_, rfl⟩
  have Cy : Hid (∀ w, Calls Tryz.prog 143 #[.agg (nc x), .agg (nc iR)] w (fun e w' => e = .returned (.agg (nc y)) ∧ Below w.heap.size w w')) := fun w => by rw [hy]; exact timesR_any x iR Ox.out iR_lt w
  obtain ⟨r, hr⟩ : ∃ r, r = rootX a := ⟨_, rfl⟩
  have Or : Hid (r < 115792089237316195423570985008687907853269984665640564039457584007913129639936) := by show r < _; rw [hr]; exact rootX_lt ha
  have HXR : Hid (r = if d = true then x else y) := by show _ = _; rw [hr, rootX_eq, hd, hu, hx, hy, hx]; simp only [decide_eq_true_eq]
  obtain ⟨l, hl⟩ : ∃ l, l = r % pR := ⟨_, rfl⟩
  have Cl : Hid (∀ w, Calls Tryz.prog 150 #[.agg (nc r)] w (fun e w' => e = .returned (.agg (nc l)) ∧ Below w.heap.size w w')) := fun w => by rw [hl]; exact leastR_any r Or.out w
  obtain ⟨v, hv⟩ : ∃ v, v = timesR r r := ⟨_, rfl⟩
  have Cv : Hid (∀ w, Calls Tryz.prog 143 #[.agg (nc r), .agg (nc r)] w (fun e w' => e = .returned (.agg (nc v)) ∧ Below w.heap.size w w')) := fun w => by rw [hv]; exact timesR_any r r Or.out Or.out w
  obtain ⟨s, hs⟩ : ∃ s, s = decide (v % pR = a % pR) := ⟨_, rfl⟩
  have Cs : Hid (∀ w, Calls Tryz.prog 183 #[.agg (nc v), .agg (nc a)] w (fun e w' => e = .returned (.bool s) ∧ Below w.heap.size w w')) := fun w => by rw [hs]; exact sameR_any v a (by rw [hv]; exact timesR_lt Or.out Or.out) ha w
  have HRR : Hid ((rtR a).1 = l ∧ (rtR a).2 = s) := by show _ ∧ _; rw [hl, hs, hv, hr]; exact ⟨rfl, rfl⟩
  rw [HRR.out.1, HRR.out.2]
  clear ha hx hu hd hy hr hl hv hs HRR
  have hz := zeroN
  have hne := nc_eR
  go_enter Tryz.func144, Tryz.ntmps144
  go_wp2_with (first
    | (have hx_ := T0; refine s_box F0.out rfl rfl rfl rfl ?_; clear hx_ T0; intro w1 b1 h1 _; have F1 := Lib.hid h1; clear h1 F0; have T1 : Hid True := trivial)
    | (have hx_ := T1; refine s_alloc F1.out rfl rfl zeroN rfl ?_; clear hx_ T1; intro w2 b2 h1 _; have F2 := Lib.hid h1; clear h1 F1; have T2 : Hid True := trivial)
    | (have hx_ := T2; refine s_load_n rfl rfl a rfl (F2.out.ln 1 rfl) ?_; clear hx_ T2; have T3 : Hid True := trivial)
    | (go_at_call 182; have hx_ := T3; refine (Cx.out _).mono ?_; clear hx_ T3; rintro e1 w3 ⟨rfl, hb⟩; have F3 := Lib.hid (F2.out.later hb); clear hb F2; have T4 : Hid True := trivial)
    | (have hx_ := T4; refine s_alloc F3.out rfl rfl zeroN rfl ?_; clear hx_ T4; intro w4 b4 h1 _; have F4 := Lib.hid h1; clear h1 F3; have T5 : Hid True := trivial)
    | (have hx_ := T5; refine s_store F4.out rfl rfl 0 rfl rfl (nc x) rfl rfl (by kernel_rfl) (nc_cells _) ?_; clear hx_ T5; intro w5 h1; have F5 := Lib.hid h1; clear h1 F4))
  clear hz hne
  cases d with
  | true =>
    obtain rfl : r = x := HXR.out
    refine wp_region_walk 6 [] (by kernel_rfl) (by kernel_rfl) (allocs_ok (by kernel_rfl) (fun x hx => (List.not_mem_nil hx).elim)) ?Af1 ?h1 ?hK1
    case h1 =>
      intro F hFs hNe
      try simp only [Act.put]
      try simp only [List.setIfInBounds_toArray, List.set_cons_succ, List.set_cons_zero]
      simp only [List.take_succ_cons, List.take_zero]
      go_big_quiet_want
      refine q_load_n rfl r rfl (F5.out.ln 0 rfl) ?_
      go_big_quiet_on
      simp only [Act.put, List.setIfInBounds_toArray, List.set_cons_succ, List.set_cons_zero]
      go_big_quiet_want
      refine q_load_n rfl r rfl (F5.out.ln 0 rfl) ?_
      go_big_quiet_on
      simp only [Act.put, List.setIfInBounds_toArray, List.set_cons_succ, List.set_cons_zero]
      go_big_quiet_step (exact fs_call hFs (Cu.out _))
      go_big_quiet_want
      refine q_load_n rfl a rfl (F5.out.ln 2 rfl) ?_
      go_big_quiet_on
      simp only [Act.put, List.setIfInBounds_toArray, List.set_cons_succ, List.set_cons_zero]
      go_big_quiet_step (exact fs_call hFs (Cd.out _))
      go_big_quiet_step (fail)
      refine wpQuiet_nil ?_
      exact rfl
    case hK1 =>
      intro w6 hb
      have F6 := Lib.hid (F5.out.later hb)
      clear hb
      simp only [freshQ]
      try simp only [Act.put]
      simp only [List.length_nil, Nat.reduceAdd, List.drop_succ_cons, List.drop_zero]
      go_wp2
      refine wp_region_walk 7 [] (by kernel_rfl) (by kernel_rfl) (allocs_ok (by kernel_rfl) (fun x hx => (List.not_mem_nil hx).elim)) ?Af2 ?h2 ?hK2
      case h2 =>
        intro F hFs hNe
        try simp only [Act.put]
        try simp only [List.setIfInBounds_toArray, List.set_cons_succ, List.set_cons_zero]
        simp only [List.take_succ_cons, List.take_zero]
        go_big_quiet_want
        refine q_load_n rfl r rfl (F6.out.ln 0 rfl) ?_
        go_big_quiet_on
        simp only [Act.put, List.setIfInBounds_toArray, List.set_cons_succ, List.set_cons_zero]
        go_big_quiet_step (exact fs_call hFs (Cl.out _))
        go_big_quiet_want
        refine q_load_n rfl r rfl (F6.out.ln 0 rfl) ?_
        go_big_quiet_on
        simp only [Act.put, List.setIfInBounds_toArray, List.set_cons_succ, List.set_cons_zero]
        go_big_quiet_want
        refine q_load_n rfl r rfl (F6.out.ln 0 rfl) ?_
        go_big_quiet_on
        simp only [Act.put, List.setIfInBounds_toArray, List.set_cons_succ, List.set_cons_zero]
        go_big_quiet_step (exact fs_call hFs (Cv.out _))
        go_big_quiet_want
        refine q_load_n rfl a rfl (F6.out.ln 2 rfl) ?_
        go_big_quiet_on
        simp only [Act.put, List.setIfInBounds_toArray, List.set_cons_succ, List.set_cons_zero]
        go_big_quiet_step (exact fs_call hFs (Cs.out _))
        refine wpQuiet_nil ?_
        exact rfl
      case hK2 =>
        intro w7 hb
        have F7 := Lib.hid (F6.out.later hb)
        clear hb
        simp only [freshQ]
        try simp only [Act.put]
        simp only [List.length_nil, Nat.reduceAdd, List.drop_succ_cons, List.drop_zero]
        go_wp2_with (first
          | (refine s_store F7.out rfl rfl 1 rfl rfl (nc l) rfl rfl (by kernel_rfl) (nc_cells _) ?_; intro w9 h1; have F9 := Lib.hid h1; clear h1 F7))
        exact bodyPost_ret (v := .tuple #[.agg (nc l), .bool s]) (by simp [results, Tryz.results144, asAddr, retN (F9.out.mem (i := 1) rfl)]) rfl ⟨rfl, F9.out.below⟩
  | false =>
    obtain rfl : r = y := HXR.out
    refine wp_region_walk 6 [] (by kernel_rfl) (by kernel_rfl) (allocs_ok (by kernel_rfl) (fun x hx => (List.not_mem_nil hx).elim)) ?Bf1 ?g1 ?gK1
    case g1 =>
      intro F hFs hNe
      try simp only [Act.put]
      try simp only [List.setIfInBounds_toArray, List.set_cons_succ, List.set_cons_zero]
      simp only [List.take_succ_cons, List.take_zero]
      go_big_quiet_want
      refine q_load_n rfl x rfl (F5.out.ln 0 rfl) ?_
      go_big_quiet_on
      simp only [Act.put, List.setIfInBounds_toArray, List.set_cons_succ, List.set_cons_zero]
      go_big_quiet_want
      refine q_load_n rfl x rfl (F5.out.ln 0 rfl) ?_
      go_big_quiet_on
      simp only [Act.put, List.setIfInBounds_toArray, List.set_cons_succ, List.set_cons_zero]
      go_big_quiet_step (exact fs_call hFs (Cu.out _))
      go_big_quiet_want
      refine q_load_n rfl a rfl (F5.out.ln 2 rfl) ?_
      go_big_quiet_on
      simp only [Act.put, List.setIfInBounds_toArray, List.set_cons_succ, List.set_cons_zero]
      go_big_quiet_step (exact fs_call hFs (Cd.out _))
      go_big_quiet_step (fail)
      refine wpQuiet_nil ?_
      exact rfl
    case gK1 =>
      intro w6 hb
      have F6 := Lib.hid (F5.out.later hb)
      clear hb
      simp only [freshQ]
      try simp only [Act.put]
      simp only [List.length_nil, Nat.reduceAdd, List.drop_succ_cons, List.drop_zero]
      go_wp2
      refine wp_region_walk 3 [] (by kernel_rfl) (by kernel_rfl) (allocs_ok (by kernel_rfl) (fun x hx => (List.not_mem_nil hx).elim)) ?Bf2 ?g2 ?gK2
      case g2 =>
        intro F hFs hNe
        try simp only [Act.put]
        try simp only [List.setIfInBounds_toArray, List.set_cons_succ, List.set_cons_zero]
        simp only [List.take_succ_cons, List.take_zero]
        go_big_quiet_want
        refine q_load_n rfl x rfl (F6.out.ln 0 rfl) ?_
        go_big_quiet_on
        simp only [Act.put, List.setIfInBounds_toArray, List.set_cons_succ, List.set_cons_zero]
        go_big_quiet_step (exact fs_call hFs (Ci.out _))
        go_big_quiet_step (exact fs_call hFs (Cy.out _))
        refine wpQuiet_nil ?_
        exact rfl
      case gK2 =>
        intro w7 hb
        have F7 := Lib.hid (F6.out.later hb)
        clear hb
        simp only [freshQ]
        try simp only [Act.put]
        simp only [List.length_nil, Nat.reduceAdd, List.drop_succ_cons, List.drop_zero]
        go_wp2_with (refine s_store F7.out rfl rfl 0 rfl rfl (nc r) rfl rfl (by kernel_rfl) (nc_cells _) ?_; intro w8 h1; have F8 := Lib.hid h1; clear h1 F7)
        refine wp_region_walk 7 [] (by kernel_rfl) (by kernel_rfl) (allocs_ok (by kernel_rfl) (fun x hx => (List.not_mem_nil hx).elim)) ?Bf3 ?g3 ?gK3
        case g3 =>
          intro F hFs hNe
          try simp only [Act.put]
          try simp only [List.setIfInBounds_toArray, List.set_cons_succ, List.set_cons_zero]
          simp only [List.take_succ_cons, List.take_zero]
          go_big_quiet_want
          refine q_load_n rfl r rfl (F8.out.ln 0 rfl) ?_
          go_big_quiet_on
          simp only [Act.put, List.setIfInBounds_toArray, List.set_cons_succ, List.set_cons_zero]
          go_big_quiet_step (exact fs_call hFs (Cl.out _))
          go_big_quiet_want
          refine q_load_n rfl r rfl (F8.out.ln 0 rfl) ?_
          go_big_quiet_on
          simp only [Act.put, List.setIfInBounds_toArray, List.set_cons_succ, List.set_cons_zero]
          go_big_quiet_want
          refine q_load_n rfl r rfl (F8.out.ln 0 rfl) ?_
          go_big_quiet_on
          simp only [Act.put, List.setIfInBounds_toArray, List.set_cons_succ, List.set_cons_zero]
          go_big_quiet_step (exact fs_call hFs (Cv.out _))
          go_big_quiet_want
          refine q_load_n rfl a rfl (F8.out.ln 2 rfl) ?_
          go_big_quiet_on
          simp only [Act.put, List.setIfInBounds_toArray, List.set_cons_succ, List.set_cons_zero]
          go_big_quiet_step (exact fs_call hFs (Cs.out _))
          refine wpQuiet_nil ?_
          exact rfl
        case gK3 =>
          intro w10 hb
          have F10 := Lib.hid (F8.out.later hb)
          clear hb
          simp only [freshQ]
          try simp only [Act.put]
          simp only [List.length_nil, Nat.reduceAdd, List.drop_succ_cons, List.drop_zero]
          go_wp2_with (first
            | (refine s_store F10.out rfl rfl 1 rfl rfl (nc l) rfl rfl (by kernel_rfl) (nc_cells _) ?_; intro w9 h1; have F9 := Lib.hid h1; clear h1 F10))
          exact bodyPost_ret (v := .tuple #[.agg (nc l), .bool s]) (by simp [results, Tryz.results144, asAddr, retN (F9.out.mem (i := 1) rfl)]) rfl ⟨rfl, F9.out.below⟩

end Go.Proofs.YtnhdepmalejclaaGreatDoor

namespace Go.Proofs.YtnhdepmalejclaaGreatDoor
open Go.RowKit Go.Lib
theorem ofL_lt : ∀ l : List UInt8, ofL l < 256 ^ l.length
  | [] => by decide
  | b :: l => by
    have h := ofL_lt l
    have hb := b.toNat_lt
    rw [ofL, List.length_cons, Nat.pow_succ]
    omega
theorem ofL_app : ∀ (l m : List UInt8), ofL (l ++ m) = ofL l + 256 ^ l.length * ofL m
  | [], m => by simp [ofL]
  | b :: l, m => by
    rw [List.cons_append, ofL, ofL, ofL_app l m, List.length_cons, Nat.pow_succ, Nat.mul_add, ← Nat.mul_assoc, Nat.mul_comm 256 (256 ^ l.length)]
    omega
theorem ofL_take {l : List UInt8} {k : Nat} (hk : k < l.length) : ofL (l.take (k + 1)) = ofL (l.take k) + 256 ^ k * (l.getD k 0).toNat := by
  rw [List.take_add_one, ofL_app, List.getElem?_eq_getElem hk, List.length_take, Nat.min_eq_left (Nat.le_of_lt hk)]
  simp [ofL, List.getD, List.getElem?_eq_getElem hk]
theorem words_add {q v s X : Nat} (hq : q < 4) (h1 : v < pM q * s) (h2 : s + X ≤ 18446744073709551616) : nw v q < s ∧ (nc v).setIfInBounds q (.int .u64 ((nw v q + X : Nat) : Int)) = nc (v + pM q * X) := by
  obtain rfl | rfl | rfl | rfl : q = 0 ∨ q = 1 ∨ q = 2 ∨ q = 3 := by omega
  · have e0 : nw (v + pM 0 * X) 0 = nw v 0 + X := by simp only [nw, pM] at *; omega
    have e1 : nw (v + pM 0 * X) 1 = nw v 1 := by simp only [nw, pM] at *; omega
    have e2 : nw (v + pM 0 * X) 2 = nw v 2 := by simp only [nw, pM] at *; omega
    have e3 : nw (v + pM 0 * X) 3 = nw v 3 := by simp only [nw, pM] at *; omega
    refine ⟨by simp only [nw, pM] at *; omega, ?_⟩
    unfold nc
    rw [e0, e1, e2, e3]; rfl
  · have e0 : nw (v + pM 1 * X) 0 = nw v 0 := by simp only [nw, pM] at *; omega
    have e1 : nw (v + pM 1 * X) 1 = nw v 1 + X := by simp only [nw, pM] at *; omega
    have e2 : nw (v + pM 1 * X) 2 = nw v 2 := by simp only [nw, pM] at *; omega
    have e3 : nw (v + pM 1 * X) 3 = nw v 3 := by simp only [nw, pM] at *; omega
    refine ⟨by simp only [nw, pM] at *; omega, ?_⟩
    unfold nc
    rw [e0, e1, e2, e3]; rfl
  · have e0 : nw (v + pM 2 * X) 0 = nw v 0 := by simp only [nw, pM] at *; omega
    have e1 : nw (v + pM 2 * X) 1 = nw v 1 := by simp only [nw, pM] at *; omega
    have e2 : nw (v + pM 2 * X) 2 = nw v 2 + X := by simp only [nw, pM] at *; omega
    have e3 : nw (v + pM 2 * X) 3 = nw v 3 := by simp only [nw, pM] at *; omega
    refine ⟨by simp only [nw, pM] at *; omega, ?_⟩
    unfold nc
    rw [e0, e1, e2, e3]; rfl
  · have e0 : nw (v + pM 3 * X) 0 = nw v 0 := by simp only [nw, pM] at *; omega
    have e1 : nw (v + pM 3 * X) 1 = nw v 1 := by simp only [nw, pM] at *; omega
    have e2 : nw (v + pM 3 * X) 2 = nw v 2 := by simp only [nw, pM] at *; omega
    have e3 : nw (v + pM 3 * X) 3 = nw v 3 + X := by simp only [nw, pM] at *; omega
    refine ⟨by simp only [nw, pM] at *; omega, ?_⟩
    unfold nc
    rw [e0, e1, e2, e3]; rfl
theorem pM_pow {q : Nat} (hq : q < 4) : pM q = 18446744073709551616 ^ q := by
  obtain rfl | rfl | rfl | rfl : q = 0 ∨ q = 1 ∨ q = 2 ∨ q = 3 := by omega
  all_goals decide
theorem pow256 (k : Nat) : 256 ^ k = 18446744073709551616 ^ (k / 8) * 2 ^ (8 * (k % 8)) := by
  rw [show (256 : Nat) = 2 ^ 8 from rfl, show (18446744073709551616 : Nat) = 2 ^ 64 from rfl, ← Nat.pow_mul, ← Nat.pow_mul, ← Nat.pow_add]
  congr 1
  omega
/-- One byte more. -/
theorem ofL_step {l : List UInt8} (hl : l.length = 32) {k : Nat} (hk : k < 32) :
    bits BinOp.or IntKind.u64 (nw (ofL (l.take k)) (k / 8) : Int) (IntKind.u64.wrap (((l.getD k 0).toNat : Int) * 2 ^ (8 * (k % 8)))) = ((nw (ofL (l.take k)) (k / 8) + (l.getD k 0).toNat * 2 ^ (8 * (k % 8)) : Nat) : Int) ∧
    (nc (ofL (l.take k))).setIfInBounds (k / 8) (.int .u64 ((nw (ofL (l.take k)) (k / 8) + (l.getD k 0).toNat * 2 ^ (8 * (k % 8)) : Nat) : Int)) = nc (ofL (l.take (k + 1))) := by
  have hq : k / 8 < 4 := by omega
  have hv := ofL_lt (l.take k)
  rw [List.length_take, Nat.min_eq_left (by omega), pow256, ← pM_pow hq] at hv
  have ht := ofL_take (l := l) (k := k) (by omega)
  rw [pow256, ← pM_pow hq] at ht
  rw [ht]
  generalize ofL (l.take k) = v at *
  have hb : (l.getD k 0).toNat < 256 := UInt8.toNat_lt _
  generalize (l.getD k 0).toNat = b at *
  have hs : 2 ^ (8 * (k % 8)) * 256 ≤ 18446744073709551616 := by
    have h1 : (2 : Nat) ^ (8 * (k % 8) + 8) ≤ 2 ^ 64 := Nat.pow_le_pow_right (by decide) (by omega)
    rw [Nat.pow_add] at h1
    exact h1
  have hbs : b * 2 ^ (8 * (k % 8)) + 2 ^ (8 * (k % 8)) ≤ 18446744073709551616 := by
    have h1 : (b + 1) * 2 ^ (8 * (k % 8)) ≤ 256 * 2 ^ (8 * (k % 8)) := Nat.mul_le_mul_right _ (by omega)
    rw [Nat.add_mul, Nat.one_mul] at h1
    omega
  obtain ⟨hlt, hset⟩ := words_add (X := b * 2 ^ (8 * (k % 8))) hq hv (by omega)
  refine ⟨?_, ?_⟩
  · have e1 : ((b : Int) * 2 ^ (8 * (k % 8))) = ((b * 2 ^ (8 * (k % 8)) : Nat) : Int) := by push_cast; rfl
    rw [e1, wrapU, Nat.mod_eq_of_lt (by have : 0 < 2 ^ (8 * (k % 8)) := Nat.pow_pos (by decide); omega), bits_or_u64_nat _ _ (nw_lt _ _) (by have : 0 < 2 ^ (8 * (k % 8)) := Nat.pow_pos (by decide); omega)]
    congr 1
    rw [Nat.or_comm, Nat.mul_comm b, ← Nat.two_pow_add_eq_or_of_lt hlt, Nat.add_comm]
  · rw [hset, Nat.mul_assoc, Nat.mul_comm b]
theorem ofL32 {l : List UInt8} (h : l.length = 32) : ofL l < 115792089237316195423570985008687907853269984665640564039457584007913129639936 := by
  have := ofL_lt l
  rw [h] at this
  exact this
set_option maxRecDepth 100000 in
set_option maxHeartbeats 1000000 in
theorem fromR_any (l : List UInt8) (hl : l.length = 32) (w : World) : Calls Tryz.prog 142 #[.agg (bvs l).toArray] w (NRet (ofL l) w) := by
  have F0 := Lib.hid (BK.start w)
  have T0 : Hid True := trivial
  have HL := Lib.hid hl
  clear hl
  go_enter Tryz.func142, Tryz.ntmps142
  go_wp2_with (first
    | (have hx_ := T0; refine s_box F0.out rfl rfl rfl rfl ?_; clear hx_ T0; intro w1 b1 h1 _; have F1 := Lib.hid h1; clear h1 F0; have T1 : Hid True := trivial)
    | (have hx_ := T1; refine s_alloc F1.out rfl rfl zeroN rfl ?_; clear hx_ T1; intro w2 b2 h1 _; have F2 := Lib.hid h1; clear h1 F1; have T2 : Hid True := trivial)
    | (have hx_ := T2; refine s_alloc F2.out rfl rfl zeroN rfl ?_; clear hx_ T2; intro w3 b3 h1 _; have F3 := Lib.hid h1; clear h1 F2))
  go_loopw [5] (fun iv wr => ∃ k : Nat, k ≤ 32 ∧ iv = .int .i64 (k : Int) ∧ Hid (BK w wr [(b3, nc (ofL (l.take k)), 181), (b2, nc 0, 181), (b1, (bvs l).toArray, 25)])) (fun i _ => 32 - (Go.RowKit.intOf i).toNat)
  case atStart => exact ⟨0, Nat.zero_le _, rfl, F3.out⟩
  case round =>
    obtain ⟨k, hk, rfl, hF⟩ := hrel
    clear F3
    by_cases hlt : k < 32
    · have hlt' : (k : Int) < 32 := by omega
      have hk0 : (0 : Int) ≤ (k : Int) := by omega
      have hq4 : k / 8 < 4 := by omega
      obtain ⟨h1, h2⟩ := ofL_step HL.out hlt
      have H2 := Lib.hid h2
      obtain ⟨bt, hbt⟩ : ∃ b, b = (l.getD k 0).toNat := ⟨_, rfl⟩
      have cb : wr.cell? ⟨b1, k, none⟩ = some (.int .u8 (bt : Int)) := by
        rw [hF.out.cell 2 rfl k, hbt]
        have := HL.out
        simp [bvs, bv, this, hlt]
      have cw := (hF.out.cell 0 rfl (k / 8)).trans (nc_at _ hq4)
      rw [← hbt] at h1 H2
      obtain ⟨nv, hnv⟩ : ∃ n, n = nw (ofL (l.take k)) (k / 8) + bt * 2 ^ (8 * (k % 8)) := ⟨_, rfl⟩
      rw [← hnv] at h1 H2
      have H1 := Lib.hid h1
      clear h1
      have HW : Hid (IntKind.u64.wrap (bt : Int) = (bt : Int)) := Lib.hid (by rw [hbt, wrapU, Nat.mod_eq_of_lt (by have := (l.getD k 0).toNat_lt; omega)])
      have HK := Lib.hid hlt
      have HQ := Lib.hid hq4
      clear h2 hbt hnv hlt hq4 hk
      go_wp2
      refine wp_quiet_tail 17 (by kernel_rfl) (by kernel_rfl) ?_
      simp only [List.take_succ_cons, List.take_zero, List.drop_succ_cons, List.drop_zero]
      repeat (go_big_quiet_step (fail))
      refine wpQuiet_nil ?_
      go_wp2_with (refine s_set64 hF.out.drew rfl rfl 0 rfl (k / 8) (by show k / 8 < 4; exact HQ.out) rfl _ rfl ?_; intro w5 h5; rw [HW.out, H1.out] at h5; simp only [List.set_cons_zero] at h5; rw [H2.out] at h5; have F5 := Lib.hid h5; clear h5 hF cb cw)
      go_roundw
      case rel => exact ⟨k + 1, HK.out, by go_num, F5.out⟩
      case measure => simp [Go.RowKit.intOf]; have := HK.out; omega
    · obtain rfl : k = 32 := by omega
      have hd : decide (((32 : Nat) : Int) < 32) = false := by decide
      rw [List.take_of_length_le (by rw [HL.out]; exact Nat.le_refl _)] at hF
      go_wp2_with (first
        | (refine s_load_n rfl rfl (ofL l) rfl (hF.out.ln 0 rfl) ?_)
        | (refine s_store hF.out rfl rfl 1 rfl rfl (nc (ofL l)) rfl rfl (by kernel_rfl) (nc_cells _) ?_; intro w5 h1; have F5 := Lib.hid h1; clear h1 hF))
      exact bodyPost_ret (v := .agg (nc (ofL l))) (by simp [results, Tryz.results142, asAddr]; exact retN (F5.out.mem (i := 1) rfl)) rfl ⟨rfl, F5.out.below⟩
end Go.Proofs.YtnhdepmalejclaaGreatDoor

namespace Go.Proofs.YtnhdepmalejclaaGreatDoor
open Go.RowKit Go.Lib
def byteR (v k : Nat) : UInt8 := UInt8.ofNat (v / 2 ^ (8 * k))
theorem toL_eq (v : Nat) : toL v = genL (byteR v) 32 := rfl
theorem byteR_val (v : Nat) {k : Nat} (hk : k < 32) : Value.int IntKind.u8 ((nw v (k / 8) : Int) / 2 ^ (8 * (k % 8)) % 256) = bv (byteR v k) := by
  have hq : k / 8 < 4 := by omega
  unfold bv byteR
  congr 1
  rw [nw_pow v hq, show (18446744073709551616 : Nat) = 2 ^ 64 from rfl, ← Nat.pow_mul]
  have e1 : 2 ^ (8 * k) = 2 ^ (64 * (k / 8)) * 2 ^ (8 * (k % 8)) := by rw [← Nat.pow_add]; congr 1; omega
  have e2 : (2 : Nat) ^ 64 = 2 ^ (8 * (k % 8)) * 2 ^ (64 - 8 * (k % 8)) := by rw [← Nat.pow_add]; congr 1; omega
  have e3 : 2 ^ (64 - 8 * (k % 8)) = 256 * 2 ^ (56 - 8 * (k % 8)) := by rw [show (256 : Nat) = 2 ^ 8 from rfl, ← Nat.pow_add]; congr 1; omega
  have key : v / 2 ^ (64 * (k / 8)) % 2 ^ 64 / 2 ^ (8 * (k % 8)) % 256 = v / 2 ^ (8 * k) % 256 := by
    rw [e1, ← Nat.div_div_eq_div_mul]
    generalize v / 2 ^ (64 * (k / 8)) = x
    rw [e2, Nat.mod_mul_right_div_self, e3, Nat.mod_mul_right_mod]
  have h : ∀ y s : Nat, ((y : Nat) : Int) / 2 ^ s % 256 = ((y / 2 ^ s % 256 : Nat) : Int) := by intro y s; rw [Int.natCast_emod, Int.natCast_ediv, Int.natCast_pow]; rfl
  rw [h, key, UInt8.toNat_ofNat']
set_option maxRecDepth 100000 in
set_option maxHeartbeats 1000000 in
theorem bytesR_any (v0 : Nat) (hv0 : v0 < 115792089237316195423570985008687907853269984665640564039457584007913129639936) (w : World) : Calls Tryz.prog 151 #[.agg (nc v0)] w (BRet (toL (v0 % pR)) w) := by
  have F0 := Lib.hid (BK.start w)
  have T0 : Hid True := trivial
  obtain ⟨v, hv⟩ : ∃ v, v = v0 % pR := ⟨_, rfl⟩
  have C1 : Hid (∀ w, Calls Tryz.prog 150 #[.agg (nc v0)] w (NRet v w)) := fun w => by rw [hv]; exact leastR_any v0 hv0 w
  rw [← hv, toL_eq]
  clear hv hv0
  obtain ⟨zb, hzb⟩ : ∃ zb, zb = genC (byteF nilE) 32 0 := ⟨_, rfl⟩
  have hz32 : ∀ w, (zeroValue 25).run Tryz.prog w = .ok (.agg zb) w := by rw [hzb]; exact zero32
  have HZB := Lib.hid hzb
  clear hzb
  go_enter Tryz.func151, Tryz.ntmps151
  go_wp2_with (first
    | (have hx_ := T0; refine s_box F0.out rfl rfl rfl rfl ?_; clear hx_ T0; intro w1 b1 h1 _; have F1 := Lib.hid h1; clear h1 F0; have T1 : Hid True := trivial)
    | (have hx_ := T1; refine s_alloc F1.out rfl rfl hz32 rfl ?_; clear hx_ T1; intro w2 b2 h1 _; have F2 := Lib.hid h1; clear h1 F1; have T2 : Hid True := trivial)
    | (have hx_ := T2; refine s_load_n rfl rfl v0 rfl (F2.out.ln 1 rfl) ?_; clear hx_ T2; have T3 : Hid True := trivial)
    | (go_at_call 150; have hx_ := T3; refine (C1.out _).mono ?_; clear hx_ T3; rintro e w3 ⟨rfl, hb⟩; have F3 := Lib.hid (F2.out.later hb); clear hb F2; have T4 : Hid True := trivial)
    | (have hx_ := T4; refine s_store F3.out rfl rfl 1 rfl rfl (nc v) rfl rfl (by kernel_rfl) (nc_cells _) ?_; clear hx_ T4; intro w4 h1; have F4 := Lib.hid h1; clear h1 F3; have T5 : Hid True := trivial)
    | (have hx_ := T5; refine s_alloc F4.out rfl rfl hz32 rfl ?_; clear hx_ T5; intro w5 b3 h1 _; have F5 := Lib.hid h1; clear h1 F4))
  have G5 : Hid (BK w w5 [(b3, genC (byteR v) 32 0, 25), (b2, zb, 25), (b1, nc v, 181)]) := by
    have h := F5.out
    show BK _ _ _
    rw [show genC (byteR v) 32 0 = zb from by rw [HZB.out]; exact genC_zero _ _ _]
    exact h
  clear F5
  go_loopw [7] (fun iv wr => ∃ k : Nat, k ≤ 32 ∧ iv = .int .i64 (k : Int) ∧ Hid (BK w wr [(b3, genC (byteR v) 32 k, 25), (b2, zb, 25), (b1, nc v, 181)])) (fun i _ => 32 - (Go.RowKit.intOf i).toNat)
  case atStart => exact ⟨0, Nat.zero_le _, rfl, G5.out⟩
  case round =>
    obtain ⟨k, hk, rfl, hF⟩ := hrel
    clear G5
    by_cases hlt : k < 32
    · have hlt' : (k : Int) < 32 := by omega
      have hk0 : (0 : Int) ≤ (k : Int) := by omega
      have cw := (hF.out.cell 2 rfl (k / 8)).trans (nc_at _ (by omega))
      have HK := Lib.hid hlt
      have HV := Lib.hid (byteR_val v hlt)
      obtain ⟨nv, hnv⟩ : ∃ n, n = nw v (k / 8) := ⟨_, rfl⟩
      rw [← hnv] at cw HV
      clear hnv hlt hk
      go_wp2_with (refine s_set8 hF.out rfl rfl 0 rfl k (by rw [genC_size]; exact HK.out) rfl _ rfl ?_; intro w5 h5; simp only [List.set_cons_zero] at h5; rw [genC_set _ _ _ HK.out HV.out] at h5; have F5 := Lib.hid h5; clear h5 hF cw)
      go_roundw
      case rel => exact ⟨k + 1, HK.out, by go_num, F5.out⟩
      case measure => simp [Go.RowKit.intOf]; have := HK.out; omega
    · obtain rfl : k = 32 := by omega
      have hd : decide (((32 : Nat) : Int) < 32) = false := by decide
      rw [show genC (byteR v) 32 32 = (bvs (genL (byteR v) 32)).toArray from genC_last _ _] at hF
      obtain ⟨l, hl⟩ : ∃ l, l = genL (byteR v) 32 := ⟨_, rfl⟩
      have Hl : Hid (l.length = 32) := by show _ = _; rw [hl]; exact genL_length _ _
      have Hz : Hid (zb.size = 32) := by show _ = _; rw [HZB.out]; exact genC_size _ _ _
      rw [← hl] at hF
      have HLL := Lib.hid hl
      clear hl
      go_wp2_with (first
        | (refine s_load_b rfl rfl l Hl.out rfl (hF.out.lb 0 rfl) ?_)
        | (refine s_store_b hF.out rfl rfl 1 rfl rfl l Hl.out rfl Hz.out ?_; intro w11 h11; have F11 := Lib.hid h11; clear h11 hF))
      exact bodyPost_ret (v := .agg (bvs l).toArray) (by simp [results, Tryz.results151, asAddr]; exact ret32 Hl.out (F11.out.mem (i := 1) rfl)) rfl ⟨by rw [HLL.out], F11.out.below⟩
set_option maxRecDepth 100000 in
set_option maxHeartbeats 1000000 in
theorem canonicalR_any (l : List UInt8) (hl : l.length = 32) (w : World) : Calls Tryz.prog 141 #[.agg (bvs l).toArray] w (fun e w' => e = .returned (.bool (decide (ofL l < pR))) ∧ Below w.heap.size w w') := by
  have F0 := Lib.hid (BK.start w)
  have T0 : Hid True := trivial
  obtain ⟨v, hv⟩ : ∃ v, v = ofL l := ⟨_, rfl⟩
  have C1 : Hid (∀ w, Calls Tryz.prog 142 #[.agg (bvs l).toArray] w (NRet v w)) := fun w => by rw [hv]; exact fromR_any l hl w
  have C2 : Hid (∀ w, Calls Tryz.prog 179 #[.agg (nc v), .agg (nc pR)] w (fun e w' => e = .returned (.bool (decide (v < pR))) ∧ Below w.heap.size w w')) := fun w => belowR_any v pR (by rw [hv]; exact ofL32 hl) pR_lt w
  rw [← hv]
  obtain ⟨r, hr⟩ : ∃ r, r = decide (v < pR) := ⟨_, rfl⟩
  rw [← hr] at C2 ⊢
  have HL := Lib.hid hl
  clear hv hl hr
  obtain ⟨pv, hpv⟩ : ∃ p, p = nc pR := ⟨_, rfl⟩
  have C3 : Hid (∀ w, Calls Tryz.prog 180 #[] w (fun e w' => e = .returned (.agg pv) ∧ Below w.heap.size w w')) := fun w => by rw [hpv]; exact pR_any w
  rw [← hpv] at C2
  clear hpv
  go_enter Tryz.func141, Tryz.ntmps141
  go_wp2_with (first
    | (have hx_ := T0; refine s_box F0.out rfl rfl rfl rfl ?_; clear hx_ T0; intro w1 b1 h1 _; have F1 := Lib.hid h1; clear h1 F0; have T1 : Hid True := trivial)
    | (have hx_ := T1; refine s_load_b rfl rfl l HL.out rfl (F1.out.lb 0 rfl) ?_; clear hx_ T1; have T2 : Hid True := trivial)
    | (go_at_call 142; have hx_ := T2; refine (C1.out _).mono ?_; clear hx_ T2; rintro e w3 ⟨rfl, hb⟩; have F3 := Lib.hid (F1.out.later hb); clear hb F1; have T3 : Hid True := trivial)
    | (go_at_call 180; have hx_ := T3; refine (C3.out _).mono ?_; clear hx_ T3; rintro e w4 ⟨rfl, hb⟩; have F4 := Lib.hid (F3.out.later hb); clear hb F3; have T4 : Hid True := trivial)
    | (go_at_call 179; have hx_ := T4; refine (C2.out _).mono ?_; clear hx_ T4; rintro e w5 ⟨rfl, hb⟩; have F5 := Lib.hid (F4.out.later hb); clear hb F4))
  exact bodyPost_ret (v := .bool r) (by simp [results, Tryz.results141]) rfl ⟨rfl, F5.out.below⟩
end Go.Proofs.YtnhdepmalejclaaGreatDoor

namespace Go.Proofs.YtnhdepmalejclaaGreatDoor
open Go.RowKit Go.Lib
def Rt.ok (p : Rt) : Prop := p.x < 115792089237316195423570985008687907853269984665640564039457584007913129639936 ∧ p.y < 115792089237316195423570985008687907853269984665640564039457584007913129639936 ∧ p.z < 115792089237316195423570985008687907853269984665640564039457584007913129639936 ∧ p.t < 115792089237316195423570985008687907853269984665640564039457584007913129639936
/-- Sixteen cells. -/
def Rt.cs (p : Rt) : Array Value := #[.int .u64 (nw p.x 0 : Int), .int .u64 (nw p.x 1 : Int), .int .u64 (nw p.x 2 : Int), .int .u64 (nw p.x 3 : Int), .int .u64 (nw p.y 0 : Int), .int .u64 (nw p.y 1 : Int), .int .u64 (nw p.y 2 : Int), .int .u64 (nw p.y 3 : Int), .int .u64 (nw p.z 0 : Int), .int .u64 (nw p.z 1 : Int), .int .u64 (nw p.z 2 : Int), .int .u64 (nw p.z 3 : Int), .int .u64 (nw p.t 0 : Int), .int .u64 (nw p.t 1 : Int), .int .u64 (nw p.t 2 : Int), .int .u64 (nw p.t 3 : Int)]
def nilR : Rt := ⟨0, 0, 0, 0⟩
theorem zeroR : ∀ w, (zeroValue 183).run Tryz.prog w = .ok (.agg nilR.cs) w := fun w => by kernel_rfl
theorem Rt.cells (p : Rt) : (p.cs.all fun v => v.oneCell') = true := by kernel_rfl
def RRet (p : Rt) (w : World) (e : Ending) (w' : World) : Prop := e = .returned (.agg p.cs) ∧ Below w.heap.size w w'
theorem retR {w : World} {b : Nat} {p : Rt} {T : TypeId} (h : w.heap[b]? = some (.cells p.cs T (0, 0))) : (loadVar 183 ⟨b, 0, none⟩).run Tryz.prog w = .ok (.agg p.cs) w :=
  run_loadVar_mid (P := Tryz.prog) w b 0 183 p.cs.toList _ (range_row h) Tryz.underlying183 rfl (by kernel_rfl)
section
variable {w0 w : World} {bs : List (Nat × Array Value × TypeId)}
theorem BK.lr (h : BK w0 w bs) (i : Nat) {b : Nat} {p : Rt} {t : TypeId} (hi : bs[i]? = some (b, p.cs, t)) : ∀ w', Below w.heap.size w w' → w'.rangeAt b 0 p.cs.toList := fun _ hb => range_row ((h.later hb).mem hi)
theorem four {c : Array Value} {o : Nat} {x : Nat} (h0 : c[o]? = some (.int .u64 (nw x 0))) (h1 : c[o + 1]? = some (.int .u64 (nw x 1))) (h2 : c[o + 2]? = some (.int .u64 (nw x 2))) (h3 : c[o + 3]? = some (.int .u64 (nw x 3))) : ∀ j, j < (nc x).toList.length → c[o + j]? = (nc x).toList[j]? := fun j hj => by
  have hj4 : j < 4 := hj
  obtain rfl | rfl | rfl | rfl : j = 0 ∨ j = 1 ∨ j = 2 ∨ j = 3 := by omega
  · exact h0
  · exact h1
  · exact h2
  · exact h3
theorem BK.nx (h : BK w0 w bs) (i : Nat) {b : Nat} {p : Rt} {t : TypeId} (hi : bs[i]? = some (b, p.cs, t)) : ∀ w', Below w.heap.size w w' → w'.rangeAt b 0 (nc p.x).toList := fun _ hb => rangeAt_part ((h.later hb).mem hi) 0 _ (four (by rfl) (by rfl) (by rfl) (by rfl))
theorem BK.ny (h : BK w0 w bs) (i : Nat) {b : Nat} {p : Rt} {t : TypeId} (hi : bs[i]? = some (b, p.cs, t)) : ∀ w', Below w.heap.size w w' → w'.rangeAt b 4 (nc p.y).toList := fun _ hb => rangeAt_part ((h.later hb).mem hi) 4 _ (four (by rfl) (by rfl) (by rfl) (by rfl))
theorem BK.nz (h : BK w0 w bs) (i : Nat) {b : Nat} {p : Rt} {t : TypeId} (hi : bs[i]? = some (b, p.cs, t)) : ∀ w', Below w.heap.size w w' → w'.rangeAt b 8 (nc p.z).toList := fun _ hb => rangeAt_part ((h.later hb).mem hi) 8 _ (four (by rfl) (by rfl) (by rfl) (by rfl))
theorem BK.nt (h : BK w0 w bs) (i : Nat) {b : Nat} {p : Rt} {t : TypeId} (hi : bs[i]? = some (b, p.cs, t)) : ∀ w', Below w.heap.size w w' → w'.rangeAt b 12 (nc p.t).toList := fun _ hb => rangeAt_part ((h.later hb).mem hi) 12 _ (four (by rfl) (by rfl) (by rfl) (by rfl))
variable {o : Oper} {a : Act} {rest : List Oper} {ops : Array Oper} {Q : Exit → Act → World → Prop} {F : World → Prop} {K : Act → Prop} {x : Operand} {b off : Nat}
theorem s_load_r (hg : o.guard = none) (ho : o.op = .load 183 x) (p : Rt) (hx : a.eval x = .pointer (some ⟨b, off, none⟩)) (hc : ∀ w', Below w.heap.size w w' → w'.rangeAt b off p.cs.toList) (h : wpList Tryz.prog ops Q rest (a.put o.dst (.agg p.cs)) w) : wpList Tryz.prog ops Q (o :: rest) a w :=
  wpList_load_arr hg 183 x ho b off hx p.cs _ (hc w (Below.refl _ _)) Tryz.underlying183 rfl (by kernel_rfl) h
theorem built_R (x y z t : Nat) : Tryz.prog.built 183 [(0, .agg (nc x)), (1, .agg (nc y)), (2, .agg (nc z)), (3, .agg (nc t))] = some (Rt.mk x y z t).cs := by kernel_rfl
theorem q_build_r {x0 x1 x2 x3 : Operand} {C : World → Prop} (ho : o.op = .build 183 #[(0, x0), (1, x1), (2, x2), (3, x3)]) (y0 y1 y2 y3 : Nat) (h0 : a.eval x0 = .agg (nc y0)) (h1 : a.eval x1 = .agg (nc y1)) (h2 : a.eval x2 = .agg (nc y2)) (h3 : a.eval x3 = .agg (nc y3)) (hk : K (a.put o.dst (.agg (Rt.mk y0 y1 y2 y3).cs))) : o.quiet Tryz.prog a C K := by
  refine ⟨_, fun w _ => ?_, hk⟩
  have e : (#[(0, x0), (1, x1), (2, x2), (3, x3)].map fun (i, x) => (i, a.eval x)) = #[(0, .agg (nc y0)), (1, .agg (nc y1)), (2, .agg (nc y2)), (3, .agg (nc y3))] := by simp [h0, h1, h2, h3]
  unfold Oper.quietAt execOp
  simp only [ho, e, run_build w _ _ _ (built_R y0 y1 y2 y3), Sem.run_bind, Sem.run_pure, Result.andThen_ok]
  exact ⟨rfl, rfl⟩
theorem s_build_r (hg : o.guard = none) {x0 x1 x2 x3 : Operand} (ho : o.op = .build 183 #[(0, x0), (1, x1), (2, x2), (3, x3)]) (y0 y1 y2 y3 : Nat) (h0 : a.eval x0 = .agg (nc y0)) (h1 : a.eval x1 = .agg (nc y1)) (h2 : a.eval x2 = .agg (nc y2)) (h3 : a.eval x3 = .agg (nc y3)) (h : wpList Tryz.prog ops Q rest (a.put o.dst (.agg (Rt.mk y0 y1 y2 y3).cs)) w) : wpList Tryz.prog ops Q (o :: rest) a w := by
  refine wpList_plain hg fun _ hK => ?_
  have e : (#[(0, x0), (1, x1), (2, x2), (3, x3)].map fun (i, x) => (i, a.eval x)) = #[(0, .agg (nc y0)), (1, .agg (nc y1)), (2, .agg (nc y2)), (3, .agg (nc y3))] := by simp [h0, h1, h2, h3]
  unfold Oper.wp execOp
  simp only [ho, e, run_build w _ _ _ (built_R y0 y1 y2 y3), Sem.run_bind, Sem.run_pure, Result.andThen_ok]
  exact hK _ _ h
end
set_option maxRecDepth 100000 in
set_option maxHeartbeats 1000000 in
theorem Neutral_any (w : World) : Calls Tryz.prog 152 #[] w (RRet neutralR w) := by
  have F0 := Lib.hid (BK.start w)
  have T0 : Hid True := trivial
  obtain ⟨z, hz⟩ : ∃ v, v = 0 := ⟨_, rfl⟩
  obtain ⟨o, ho⟩ : ∃ v, v = 1 := ⟨_, rfl⟩
  have Cz : Hid (∀ w, Calls Tryz.prog 146 #[.int .u64 0] w (fun e w' => e = .returned (.agg (nc z)) ∧ Below w.heap.size w w')) := fun w => by rw [hz]; exact Small_any 0 (by decide) w
  have Co : Hid (∀ w, Calls Tryz.prog 146 #[.int .u64 1] w (fun e w' => e = .returned (.agg (nc o)) ∧ Below w.heap.size w w')) := fun w => by rw [ho]; exact Small_any 1 (by decide) w
  have HR : Hid (Rt.mk z o o z = neutralR) := by show _ = _; rw [hz, ho]; rfl
  clear hz ho
  go_enter Tryz.func152, Tryz.ntmps152
  go_wp2_with (first
    | (have hx_ := T0; refine s_alloc F0.out rfl rfl zeroR rfl ?_; clear hx_ T0; intro w1 b1 h1 _; have F1 := Lib.hid h1; clear h1 F0; have T1 : Hid True := trivial)
    | (go_at_call 146; have hx_ := T1; refine (Cz.out _).mono ?_; clear hx_ T1; rintro e w2 ⟨rfl, hb⟩; have F2 := Lib.hid (F1.out.later hb); clear hb F1; have T2 : Hid True := trivial)
    | (go_at_call 146; have hx_ := T2; refine (Co.out _).mono ?_; clear hx_ T2; rintro e w3 ⟨rfl, hb⟩; have F3 := Lib.hid (F2.out.later hb); clear hb F2; have T3 : Hid True := trivial)
    | (go_at_call 146; have hx_ := T3; refine (Co.out _).mono ?_; clear hx_ T3; rintro e w4 ⟨rfl, hb⟩; have F4 := Lib.hid (F3.out.later hb); clear hb F3; have T4 : Hid True := trivial)
    | (go_at_call 146; have hx_ := T4; refine (Cz.out _).mono ?_; clear hx_ T4; rintro e w5 ⟨rfl, hb⟩; have F5 := Lib.hid (F4.out.later hb); clear hb F4; have T5 : Hid True := trivial)
    | (have hx_ := T5; refine s_build_r rfl rfl z o o z rfl rfl rfl rfl ?_; clear hx_ T5; have T6 : Hid True := trivial)
    | (have hx_ := T6; refine s_store F5.out rfl rfl 0 rfl rfl (Rt.mk z o o z).cs rfl rfl (by kernel_rfl) (Rt.cells _) ?_; clear hx_ T6; intro w6 h1; have F6 := Lib.hid h1; clear h1 F5))
  exact bodyPost_ret (v := .agg (Rt.mk z o o z).cs) (by simp [results, Tryz.results152, asAddr]; exact retR (F6.out.mem (i := 0) rfl)) rfl ⟨by rw [HR.out], F6.out.below⟩
end Go.Proofs.YtnhdepmalejclaaGreatDoor
