/- The texts PT3 PT4 of this work, merged by wip/merge.py. No conditions. -/
import Derived.Test.YtnhdepmalejclaaGreatDoorQG37
import Derived.Test.YtnhdepmalejclaaGreatDoorQG35
import Derived.Test.YtnhdepmalejclaaGreatDoorQG04
namespace Go.Proofs.YtnhdepmalejclaaGreatDoor
open Go.RowKit Go.Lib
theorem zeroB : ∀ w, (zeroValue 25).run Tryz.prog w = .ok (.agg (bvs (List.replicate 32 0)).toArray) w := fun w => by kernel_rfl
theorem toL_len (v : Nat) : (toL v).length = 32 := by simp [toL]
theorem invR_lt {a : Nat} (ha : a < 115792089237316195423570985008687907853269984665640564039457584007913129639936) : invR a < 115792089237316195423570985008687907853269984665640564039457584007913129639936 := powR_lt ha 256 1 (by decide)
theorem or_bit : ∀ (b : UInt8) (t : Nat), t < 2 → bits BinOp.or IntKind.u8 (b.toNat : Int) ((t : Int) * 128) = ((b ||| UInt8.ofNat (t * 128)).toNat : Int) := by
  have h : ∀ (n : Fin 256) (t : Fin 2), bits BinOp.or IntKind.u8 ((UInt8.ofNat n.val).toNat : Int) ((t.val : Int) * 128) = (((UInt8.ofNat n.val) ||| UInt8.ofNat (t.val * 128)).toNat : Int) := by decide +kernel
  intro b t ht
  have := h ⟨b.toNat, b.toNat_lt⟩ ⟨t, ht⟩
  simpa using this
theorem setR (l : List UInt8) (x : Nat) (hl : l.length = 32) : (bvs l).toArray.setIfInBounds 31 (.int .u8 (bits BinOp.or IntKind.u8 ((l.getD 31 0).toNat : Int) ((nw x 0 : Int) % 2 * 128))) = (bvs (l.set 31 (l.getD 31 0 ||| UInt8.ofNat (x % 2 * 128)))).toArray := by
  have e : (nw x 0 : Int) % 2 = ((x % 2 : Nat) : Int) := by simp only [nw]; omega
  rw [e, or_bit _ _ (by omega)]
  apply Array.ext_getElem?
  intro i
  rw [Array.getElem?_setIfInBounds]
  simp only [bvs, List.getElem?_toArray, List.getElem?_map, List.getElem?_set, List.size_toArray, List.length_map, hl]
  by_cases e : 31 = i
  · subst e; simp [bv]
  · rw [if_neg e, if_neg e]
set_option maxRecDepth 100000 in
set_option maxHeartbeats 4000000 in
theorem encodeR_any (p : Rt) (hp : p.ok) (w : World) : Calls Tryz.prog 98 #[.agg p.cs] w (BRet (encodeR p) w) := by
  obtain ⟨hpx, hpy, hpz, _⟩ := hp
  obtain ⟨v8, h8⟩ : ∃ v, v = invR p.z := ⟨_, rfl⟩
  have O8 : Hid (v8 < 115792089237316195423570985008687907853269984665640564039457584007913129639936) := by show v8 < 115792089237316195423570985008687907853269984665640564039457584007913129639936; rw [h8]; exact powR_lt hpz 256 1 (by decide)
  have C8 : Hid (∀ w, Calls Tryz.prog 147 #[.agg (nc p.z)] w (fun e w' => e = .returned (.agg (nc v8)) ∧ Below w.heap.size w w')) := fun w => by rw [h8]; exact invR_any p.z hpz w
  obtain ⟨v12, h12⟩ : ∃ v, v = timesR p.x v8 := ⟨_, rfl⟩
  have O12 : Hid (v12 < 115792089237316195423570985008687907853269984665640564039457584007913129639936) := by show v12 < 115792089237316195423570985008687907853269984665640564039457584007913129639936; rw [h12]; exact timesR_lt hpx O8.out
  have C12 : Hid (∀ w, Calls Tryz.prog 143 #[.agg (nc p.x), .agg (nc v8)] w (fun e w' => e = .returned (.agg (nc v12)) ∧ Below w.heap.size w w')) := fun w => by rw [h12]; exact timesR_any p.x v8 hpx O8.out w
  obtain ⟨v13, h13⟩ : ∃ v, v = v12 % pR := ⟨_, rfl⟩
  have O13 : Hid (v13 < 115792089237316195423570985008687907853269984665640564039457584007913129639936) := by show v13 < 115792089237316195423570985008687907853269984665640564039457584007913129639936; rw [h13]; exact Nat.lt_trans (Nat.mod_lt _ (by decide)) pR_lt
  have C13 : Hid (∀ w, Calls Tryz.prog 150 #[.agg (nc v12)] w (fun e w' => e = .returned (.agg (nc v13)) ∧ Below w.heap.size w w')) := fun w => by rw [h13]; exact leastR_any v12 O12.out w
  obtain ⟨v17, h17⟩ : ∃ v, v = timesR p.y v8 := ⟨_, rfl⟩
  have O17 : Hid (v17 < 115792089237316195423570985008687907853269984665640564039457584007913129639936) := by show v17 < 115792089237316195423570985008687907853269984665640564039457584007913129639936; rw [h17]; exact timesR_lt hpy O8.out
  have C17 : Hid (∀ w, Calls Tryz.prog 143 #[.agg (nc p.y), .agg (nc v8)] w (fun e w' => e = .returned (.agg (nc v17)) ∧ Below w.heap.size w w')) := fun w => by rw [h17]; exact timesR_any p.y v8 hpy O8.out w
  obtain ⟨v18, h18⟩ : ∃ v, v = toL (v17 % pR) := ⟨_, rfl⟩
  have L18 : Hid (v18.length = 32) := by show _ = _; rw [h18]; exact toL_len _
  have C18 : Hid (∀ w, Calls Tryz.prog 151 #[.agg (nc v17)] w (fun e w' => e = .returned (.agg (bvs v18).toArray) ∧ Below w.heap.size w w')) := fun w => by rw [h18]; exact bytesR_any v17 O17.out w
  obtain ⟨m, hm⟩ : ∃ m, m = v18.set 31 (v18.getD 31 0 ||| UInt8.ofNat (v13 % 2 * 128)) := ⟨_, rfl⟩
  have Hm : Hid (m.length = 32) := by show _ = _; rw [hm, List.length_set]; exact L18.out
  have HR : Hid (m = encodeR p) := by show _ = _; subst hm h8 h12 h13 h17 h18; rfl
  have HY : Hid ((bvs v18).toArray[31]? = some (.int .u8 ((v18.getD 31 0).toNat : Int))) := by show _ = _; have := L18.out; simp [bvs, bv, this]
  have HS : Hid ((bvs v18).toArray.setIfInBounds 31 (.int .u8 (bits BinOp.or IntKind.u8 ((v18.getD 31 0).toNat : Int) ((nw v13 0 : Int) % 2 * 128))) = (bvs m).toArray) := by show _ = _; rw [hm]; exact setR _ _ L18.out
  obtain ⟨yb, hyb⟩ : ∃ b, b = (v18.getD 31 0).toNat := ⟨_, rfl⟩
  rw [← hyb] at HY HS
  clear hm hyb h8 h12 h13 h17 h18
  have F0 := Lib.hid (BK.start w)
  have T0 : Hid True := trivial
  go_enter Tryz.func98, Tryz.ntmps98
  go_wp2_with (first
    | (have hx_ := T0; refine s_box F0.out rfl rfl rfl rfl ?_; intro w1 b1 h1 _; have F1 := Lib.hid h1; clear h1 F0; clear hx_ T0; have T1 : Hid True := trivial)
    | (have hx_ := T1; refine s_alloc F1.out rfl rfl zeroB rfl ?_; intro w2 b2 h1 _; have F2 := Lib.hid h1; clear h1 F1; clear hx_ T1; have T2 : Hid True := trivial)
    | (have hx_ := T2; refine s_load_n rfl rfl p.z rfl (F2.out.nz 1 rfl) ?_; clear hx_ T2; have T3 : Hid True := trivial)
    | (go_at_call 147; have hx_ := T3; refine (C8.out _).mono ?_; rintro e w3 ⟨rfl, hb⟩; have F3 := Lib.hid (F2.out.later hb); clear hb F2; clear hx_ T3; have T4 : Hid True := trivial)
    | (have hx_ := T4; refine s_alloc F3.out rfl rfl zeroN rfl ?_; intro w4 b4 h1 _; have F4 := Lib.hid h1; clear h1 F3; clear hx_ T4; have T5 : Hid True := trivial)
    | (have hx_ := T5; refine s_store F4.out rfl rfl 0 rfl rfl (nc v8) rfl rfl (by kernel_rfl) (nc_cells _) ?_; intro w5 h1; have F5 := Lib.hid h1; clear h1 F4; clear hx_ T5; have T6 : Hid True := trivial))
  refine wp_region_walk 10 [(4, (nc 0), 181), (5, (bvs (List.replicate 32 0)).toArray, 25)] (by kernel_rfl) (by kernel_rfl) (allocs_ok (by kernel_rfl) (fun x hx => by simp only [List.mem_cons, List.not_mem_nil, or_false] at hx; rcases hx with rfl | rfl <;> first | exact zeroB | exact zeroN)) ?Af1 ?h1 ?hK1
  case h1 =>
    intro F hF hN
    try simp only [Act.put]
    try simp only [List.setIfInBounds_toArray, List.set_cons_succ, List.set_cons_zero]
    try simp only [List.append_eq]
    try simp only [List.cons_append, List.nil_append]
    simp only [List.take_succ_cons, List.take_zero]
    go_big_quiet_step (fail)
    go_big_quiet_want
    refine q_load_n rfl p.x rfl (F5.out.nx 2 rfl) ?_
    go_big_quiet_on
    simp only [Act.put, List.setIfInBounds_toArray, List.set_cons_succ, List.set_cons_zero]
    go_big_quiet_want
    refine q_load_n rfl v8 rfl (F5.out.ln 0 rfl) ?_
    go_big_quiet_on
    simp only [Act.put, List.setIfInBounds_toArray, List.set_cons_succ, List.set_cons_zero]
    go_big_quiet_step (exact fs_call hF (C12.out _))
    go_big_quiet_step (exact fs_call hF (C13.out _))
    go_big_quiet_step (fail)
    go_big_quiet_want
    refine q_load_n rfl p.y rfl (F5.out.ny 2 rfl) ?_
    go_big_quiet_on
    simp only [Act.put, List.setIfInBounds_toArray, List.set_cons_succ, List.set_cons_zero]
    go_big_quiet_want
    refine q_load_n rfl v8 rfl (F5.out.ln 0 rfl) ?_
    go_big_quiet_on
    simp only [Act.put, List.setIfInBounds_toArray, List.set_cons_succ, List.set_cons_zero]
    go_big_quiet_step (exact fs_call hF (C17.out _))
    go_big_quiet_step (exact fs_call hF (C18.out _))
    refine wpQuiet_nil ?_
    exact rfl
  case hK1 =>
    intro w6 hb
    intro b7 hB7 hu7 hr7
    intro b8 hB8 hu8 hr8
    have F6 := Lib.hid (F5.out.foundAll hb [(b8, (bvs (List.replicate 32 0)).toArray, 25), (b7, (nc 0), 181)] (List.nodup_cons.2 ⟨hu8, List.nodup_cons.2 ⟨hu7, List.nodup_nil⟩⟩) (List.forall_mem_cons.2 ⟨⟨hB8, hr8⟩, List.forall_mem_cons.2 ⟨⟨hB7, hr7⟩, fun _ h => (List.not_mem_nil h).elim⟩⟩))
    clear hb hB7 hu7 hr7 hB8 hu8 hr8
    simp only [freshQ]
    try simp only [Act.put]
    try simp only [List.setIfInBounds_toArray, List.set_cons_succ, List.set_cons_zero]
    try simp only [List.append_eq]
    try simp only [List.cons_append, List.nil_append]
    simp only [List.length_cons, List.length_nil, Nat.reduceAdd, List.drop_succ_cons, List.drop_zero]
    have T6 : Hid True := trivial
    go_wp2_with (first
      | (have hx_ := T6; refine s_store F6.out rfl rfl 1 rfl rfl (nc v13) rfl rfl (by kernel_rfl) (nc_cells _) ?_; intro w9 h1; have F7 := Lib.hid h1; clear h1 F6; clear hx_ T6; have T7 : Hid True := trivial)
      | (have hx_ := T7; refine s_store_b F7.out rfl rfl 0 rfl rfl v18 L18.out rfl rfl ?_; intro w10 h1; have F8 := Lib.hid h1; clear h1 F7; have cy := (F8.out.cell 0 rfl 31).trans HY.out; have cx := (F8.out.cell 1 rfl 0).trans (nc_at v13 (k := 0) (by decide)); clear hx_ T7; have T8 : Hid True := trivial)
      | (have hx_ := T8; refine s_set8 F8.out rfl rfl 0 rfl 31 (by rw [bvs_size, L18.out]; decide) rfl _ rfl ?_; clear cy cx; intro wa h1; simp only [List.set_cons_zero] at h1; rw [HS.out] at h1; have Fa := Lib.hid h1; clear h1 F8; clear hx_ T8; have T9 : Hid True := trivial)
      | (have hx_ := T9; refine s_load_b rfl rfl m Hm.out rfl (Fa.out.lb 0 rfl) ?_; clear hx_ T9; have T10 : Hid True := trivial)
      | (have hx_ := T10; refine s_store_b Fa.out rfl rfl 3 rfl rfl m Hm.out rfl rfl ?_; intro wb h1; have Fb := Lib.hid h1; clear h1 Fa; clear hx_ T10; have T11 : Hid True := trivial))
    exact bodyPost_ret (v := .agg (bvs m).toArray) (by simp [results, Tryz.results98, asAddr]; exact ret32 Hm.out (Fb.out.mem (i := 3) rfl)) rfl ⟨by rw [HR.out], Fb.out.below⟩
end Go.Proofs.YtnhdepmalejclaaGreatDoor

namespace Go.Proofs.YtnhdepmalejclaaGreatDoor
open Go.RowKit Go.Lib
def ivG : Nat := 94511918245163145527187002192870376893377333718056973837267244005764803863211
def aG : Nat := 84083640453803786942255083919428330328719544220452864738830527845996062841940
def xG : Nat := 100679867887780794651069833599099376341815971972598706833411470723963281877696
def lG : Nat := 42783823269122696939284341094755422415180979639778424813682678720006717057747
def nG : Nat := 15112221349535400772501151409588531511454012693041857206046113283949847762202
def tG : Nat := 104723448469481276956857709134621151491779197886945936996402957833490381921680
theorem iv_eq : invR (plusR (timesR dR (timesR genR genR)) 1) = ivG := by
  rw [invR, ← powerR_eq]
  decide +kernel
theorem a_eq : timesR (minusR (timesR genR genR) 1) ivG = aG := by decide +kernel
theorem x_eq : powerR aG eR = xG := by
  rw [← powerR_eq]
  decide +kernel
theorem rootX_aG : rootX aG = xG := by
  rw [rootX_eq, x_eq]
  decide +kernel
theorem root_eq : rtR aG = (lG, true) := by
  rw [rtR, rootX_aG]
  decide +kernel
theorem n_eq : minusR 0 lG % pR = nG := by decide +kernel
theorem t_eq : timesR nG genR = tG := by decide +kernel
def genP : Rt := ⟨nG, genR, 1, tG⟩
theorem genP_ok : genP.ok := by refine ⟨?_, ?_, ?_, ?_⟩ <;> decide
theorem gen_dec : decodeR genR 0 = some genP := by
  unfold decodeR
  simp only [iv_eq, a_eq, root_eq]
  rw [if_neg (by decide), if_neg (by decide), if_neg (by decide), if_neg (by decide), n_eq, t_eq]
  rfl
def genB : List UInt8 := 88 :: List.replicate 31 102
theorem ofL_gen : ofL genB = genR := by decide
theorem genB_len : genB.length = 32 := by decide
set_option maxRecDepth 100000 in
set_option maxHeartbeats 1000000 in
theorem Generator_any (w : World) : Calls Tryz.prog 97 #[] w (BRet genB w) := by
  have F0 := Lib.hid (BK.start w)
  have T0 : Hid True := trivial
  obtain ⟨f, hf⟩ : ∃ f : Nat → UInt8, f = fun _ => 102 := ⟨_, rfl⟩
  have Hf : Hid (∀ k, Value.int IntKind.u8 102 = bv (f k)) := fun k => by rw [hf]; rfl
  have HG : Hid ((genC f 32 32).setIfInBounds 0 (.int .u8 88) = (bvs genB).toArray) := by show _ = _; rw [hf]; kernel_rfl
  obtain ⟨zb, hzb⟩ : ∃ zb, zb = genC f 32 0 := ⟨_, rfl⟩
  have hz32 : ∀ w, (zeroValue 25).run Tryz.prog w = .ok (.agg zb) w := by rw [hzb, hf]; exact fun w => by kernel_rfl
  have HZB := Lib.hid hzb
  have Hz : Hid (zb.size = 32) := by show _ = _; rw [hzb]; exact genC_size _ _ _
  obtain ⟨l, hl⟩ : ∃ l, l = genB := ⟨_, rfl⟩
  have Hl : Hid (l.length = 32) := by show _ = _; rw [hl]; rfl
  rw [← hl] at HG ⊢
  clear hzb hf hl
  go_enter Tryz.func97, Tryz.ntmps97
  go_wp2_with (first
    | (have hx_ := T0; refine s_alloc F0.out rfl rfl hz32 rfl ?_; clear hx_ T0; intro w1 b1 h1 _; have F1 := Lib.hid h1; clear h1 F0; have T1 : Hid True := trivial)
    | (have hx_ := T1; refine s_alloc F1.out rfl rfl hz32 rfl ?_; clear hx_ T1; intro w2 b2 h1 _; have F2 := Lib.hid h1; clear h1 F1; have T2 : Hid True := trivial))
  have G2 : Hid (BK w w2 [(b2, genC f 32 0, 25), (b1, zb, 25)]) := by
    have h := F2.out
    rw [show zb = genC f 32 0 from HZB.out] at h ⊢
    exact h
  clear F2
  go_loopw [3] (fun iv wr => ∃ k : Nat, k ≤ 32 ∧ iv = .int .i64 (k : Int) ∧ Hid (BK w wr [(b2, genC f 32 k, 25), (b1, zb, 25)])) (fun i _ => 32 - (Go.RowKit.intOf i).toNat)
  case atStart => exact ⟨0, Nat.zero_le _, rfl, G2.out⟩
  case round =>
    obtain ⟨k, hk, rfl, hF⟩ := hrel
    clear G2
    by_cases hlt : k < 32
    · have hlt' : (k : Int) < 32 := by omega
      have hk0 : (0 : Int) ≤ (k : Int) := by omega
      have HK := Lib.hid hlt
      clear hlt hk
      go_wp2_with (refine s_set8 hF.out rfl rfl 0 rfl k (by rw [genC_size]; exact HK.out) rfl _ rfl ?_; intro w5 h5; simp only [List.set_cons_zero] at h5; rw [genC_set _ _ _ HK.out (Hf.out k)] at h5; have F5 := Lib.hid h5; clear h5 hF)
      go_roundw
      case rel => exact ⟨k + 1, HK.out, by go_num, F5.out⟩
      case measure => simp [Go.RowKit.intOf]; have := HK.out; omega
    · obtain rfl : k = 32 := by omega
      have hd : decide (((32 : Nat) : Int) < 32) = false := by decide
      have T0 : Hid True := trivial
      go_wp2_with (first
        | (have hx_ := T0; refine s_set8 hF.out rfl rfl 0 rfl 0 (by rw [genC_size]; decide) rfl _ rfl ?_; clear hx_ T0; intro w5 h5; simp only [List.set_cons_zero] at h5; rw [HG.out] at h5; have F5 := Lib.hid h5; clear h5 hF; have T1 : Hid True := trivial)
        | (have hx_ := T1; refine s_load_b rfl rfl l Hl.out rfl (F5.out.lb 0 rfl) ?_; clear hx_ T1; have T2 : Hid True := trivial)
        | (have hx_ := T2; refine s_store_b F5.out rfl rfl 1 rfl rfl l Hl.out rfl Hz.out ?_; clear hx_ T2; intro w11 h11; have F11 := Lib.hid h11; clear h11 F5))
      exact bodyPost_ret (v := .agg (bvs l).toArray) (by simp [results, Tryz.results97, asAddr]; exact ret32 Hl.out (F11.out.mem (i := 1) rfl)) rfl ⟨rfl, F11.out.below⟩
end Go.Proofs.YtnhdepmalejclaaGreatDoor
