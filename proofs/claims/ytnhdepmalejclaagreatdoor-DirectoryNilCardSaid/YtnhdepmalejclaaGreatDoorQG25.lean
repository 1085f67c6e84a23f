/- The texts ED3 KR1 KR2 W1 W2 Bits of this work, merged by wip/merge.py. No conditions. -/
import Derived.Test.YtnhdepmalejclaaGreatDoorQG24
import Derived.Test.YtnhdepmalejclaaGreatDoorQG23
import Derived.Test.YtnhdepmalejclaaGreatDoorQG00
import Derived.Deep.DeepMust
import Derived.Test.YtnhdepmalejclaaGreatDoorQG01
import Derived.WalkKit
namespace Go.Proofs.YtnhdepmalejclaaGreatDoor
open Go.RowKit Go.Lib
def signF (K : List Int) (seed m : List UInt8) : List UInt8 :=
  let r := hashF K [preF K seed, m]
  let k := hashF K [baseF r, pubF K seed, m]
  baseF r ++ Sc.toB ((Sc.leN k * Sc.leN (numF K seed) + Sc.leN r) % Sc.ordN)
theorem signF_len (K : List Int) (seed m : List UInt8) : (signF K seed m).length = 64 := by simp only [signF]; rw [List.length_append, baseF_len, Sc.toB_length]
theorem put_half {x : List UInt8} (hx : x.length = 32) : putPart (bvs (List.replicate 64 0)).toArray 0 (bvs x) = (bvs (x ++ List.replicate 32 0)).toArray := by
  have h := putPart_mid [] (bvs (List.replicate 32 0)) (bvs (List.replicate 32 0)) (bvs x) 0 rfl (by rw [bvs_length, bvs_length, hx, List.length_replicate])
  rw [bvs_append]
  exact h
theorem put_half2 {x y : List UInt8} (hx : x.length = 32) (hy : y.length = 32) : putPart (bvs (x ++ List.replicate 32 0)).toArray 32 (bvs y) = (bvs (x ++ y)).toArray := by
  have h := putPart_mid (bvs x) (bvs (List.replicate 32 0)) [] (bvs y) 32 (by rw [bvs_length, hx]) (by rw [bvs_length, bvs_length, hy, List.length_replicate])
  rw [bvs_append, bvs_append x y]
  simpa using h
set_option maxRecDepth 100000 in
set_option maxHeartbeats 2000000 in
theorem Sign_any (Kt Kq : List Int) (seed m : List UInt8) (hs : seed.length = 32) (A : Option Addr) (n c : Nat) (hn : m.length = n) (hc : n ≤ c) (h1 : 0 < (32 + n) % 128) (h2 : 0 < (64 + n) % 128) (h3 : n ≤ 900000) (w : World) (hw : NW w Kt Kq) (hr : Reads w w.heap.size 1 A n (bvs m)) :
    Calls Tryz.prog 54 #[.agg (bvs seed).toArray, .slice A n c] w (BRet (signF Kq seed m) w) := by
  have F0 := Lib.hid (BK.start w)
  have T0 : Hid True := trivial
  have HW := Lib.hid hw
  have HSD := Lib.hid hs
  have HN := Lib.hid hn
  have HC := Lib.hid hc
  have HM := Lib.hid hr
  have H1 := Lib.hid h1
  have H2 := Lib.hid h2
  have H3 := Lib.hid h3
  obtain ⟨nm, hnm⟩ : ∃ z, z = numF Kq seed := ⟨_, rfl⟩
  obtain ⟨pre, hpre⟩ : ∃ z, z = preF Kq seed := ⟨_, rfl⟩
  obtain ⟨pb, hpb⟩ : ∃ z, z = pubF Kq seed := ⟨_, rfl⟩
  obtain ⟨r, hr0⟩ : ∃ z, z = hashF Kq [pre, m] := ⟨_, rfl⟩
  obtain ⟨big, hbig⟩ : ∃ z, z = baseF r := ⟨_, rfl⟩
  obtain ⟨k, hk⟩ : ∃ z, z = hashF Kq [big, pb, m] := ⟨_, rfl⟩
  obtain ⟨s, hs0⟩ : ∃ z, z = Sc.toB ((Sc.leN k * Sc.leN nm + Sc.leN r) % Sc.ordN) := ⟨_, rfl⟩
  have HR : Hid (signF Kq seed m = big ++ s) := by show _ = _; rw [hs0, hk, hbig, hr0, hpb, hpre, hnm]; rfl
  rw [HR.out]
  have Lnm : Hid (nm.length = 32) := by show _ = _; rw [hnm]; exact numF_len _ _
  have Lpre : Hid (pre.length = 32) := by show _ = _; rw [hpre]; exact preF_len _ _
  have Lpb : Hid (pb.length = 32) := by show _ = _; rw [hpb]; exact pubF_len _ _
  have Lr : Hid (r.length = 32) := by show _ = _; rw [hr0]; exact hashF_len _ _
  have Lbig : Hid (big.length = 32) := by show _ = _; rw [hbig]; exact baseF_len _
  have Lk : Hid (k.length = 32) := by show _ = _; rw [hk]; exact hashF_len _ _
  have Ls : Hid (s.length = 32) := by show _ = _; rw [hs0]; exact Sc.toB_length _
  have C84 : Hid (∀ w', Below w.heap.size w w' → Calls Tryz.prog 84 #[.agg (bvs seed).toArray] w' (fun e w2 => e = .returned (.agg (bvs (nm ++ (pre ++ pb))).toArray) ∧ Below w'.heap.size w' w2)) := fun w' hb => by rw [hnm, hpre, hpb]; exact Expand_any Kt Kq seed hs w' (hw.bel hb)
  have CBR : Hid (∀ w', Calls Tryz.prog 86 #[.agg (bvs r).toArray] w' (fun e w2 => e = .returned (.agg (bvs big).toArray) ∧ Below w'.heap.size w' w2)) := fun w' => by rw [hbig]; exact Base_any r Lr.out w'
  have CH2 : Hid (∀ w' A', Below w.heap.size w w' → Lists w' w'.heap.size A' [pre, m] → Calls Tryz.prog 85 #[.slice A' 2 2] w' (fun e w2 => e = .returned (.agg (bvs r).toArray) ∧ Below w'.heap.size w' w2)) := fun w' A' hb hl => by
    rw [hr0]; exact Hash_any Kt Kq A' 2 2 [pre, m] rfl (by decide) w' (hw.bel hb) hl (by simp [Lpre.out, hn]; omega) (by simp [Lpre.out, hn]; omega)
  have CH3 : Hid (∀ w' A', Below w.heap.size w w' → Lists w' w'.heap.size A' [big, pb, m] → Calls Tryz.prog 85 #[.slice A' 3 3] w' (fun e w2 => e = .returned (.agg (bvs k).toArray) ∧ Below w'.heap.size w' w2)) := fun w' A' hb hl => by
    rw [hk]; exact Hash_any Kt Kq A' 3 3 [big, pb, m] rfl (by decide) w' (hw.bel hb) hl (by simp [Lbig.out, Lpb.out, hn]; omega) (by simp [Lbig.out, Lpb.out, hn]; omega)
  have CMA : Hid (∀ w', Below w.heap.size w w' → Calls Tryz.prog 87 #[.agg (bvs k).toArray, .agg (bvs nm).toArray, .agg (bvs r).toArray] w' (fun e w2 => e = .returned (.agg (bvs s).toArray) ∧ Below w'.heap.size w' w2)) := fun w' hb => by
    rw [hs0]; exact Sc.MulAdd_any k nm r Lk.out Lnm.out Lr.out w' (hw.bel hb).2.2
  clear hw hs hn hc hr h1 h2 h3 hnm hpre hpb hr0 hbig hk hs0 HR
  have q1 := slAll32
  have q2 := slH64_32
  have q3 := sl64_32
  go_enter Tryz.func54, Tryz.ntmps54
  go_wp2_with (first
    | (have hx_ := T0; refine s_box F0.out rfl rfl rfl rfl ?_; clear hx_ T0; intro w1 b1 h1 _; have F1 := Lib.hid h1; clear h1 F0; have T1 : Hid True := trivial)
    | (have hx_ := T1; refine s_alloc F1.out rfl rfl zeroB64 rfl ?_; clear hx_ T1; intro w2 b2 h1 _; have F2 := Lib.hid h1; clear h1 F1; have T2 : Hid True := trivial)
    | (have hx_ := T2; refine s_load_b rfl rfl seed HSD.out rfl (F2.out.lb 1 rfl) ?_; clear hx_ T2; have T3 : Hid True := trivial)
    | (go_at_call 84; have hx_ := T3; refine (C84.out _ F2.out.below).mono ?_; clear hx_ T3; rintro e w3 ⟨rfl, hb⟩; have F3 := Lib.hid (F2.out.later hb); clear hb F2; have T4 : Hid True := trivial)
    | (have hx_ := T4; refine s_alloc F3.out rfl rfl zeroSec rfl ?_; clear hx_ T4; intro w4 b3 h1 _; have F4 := Lib.hid h1; clear h1 F3; have T5 : Hid True := trivial)
    | (have hx_ := T5; refine s_store F4.out rfl rfl 0 rfl rfl (bvs (nm ++ (pre ++ pb))).toArray rfl (by rw [bvs_size, bvs_size, List.length_append, List.length_append, Lnm.out, Lpre.out, Lpb.out, List.length_replicate]) (by rw [bvs_size, List.length_append, List.length_append, Lnm.out, Lpre.out, Lpb.out]; kernel_rfl) (bvs_cells _) ?_; clear hx_ T5; intro w5 h1; have F5 := Lib.hid h1; clear h1 F4; have T6 : Hid True := trivial)
    | (have hx_ := T6; refine s_rows2 F5.out rfl rfl rfl rfl ?_; clear hx_ T6; intro w6 b4 h1 _; have F6 := Lib.hid h1; clear h1 F5; have T7 : Hid True := trivial)
    | (go_at_call 85; have hx_ := T7; refine (CH2.out _ _ F6.out.below (lists2 (F6.out.mem (i := 0) rfl) Lpre.out HN.out (by decide) HC.out (F6.out.reads 1 rfl 32 32 pre Lpre.out (fun j hj => by rw [List.getElem?_toArray, bvs_append, List.getElem?_append_right (by rw [bvs_length, Lnm.out]; omega), bvs_length, Lnm.out, Nat.add_sub_cancel_left, bvs_append, List.getElem?_append_left (by rw [bvs_length, Lpre.out]; exact hj)])) ((HM.out.below F6.out.below).more F6.out.below.size))).mono ?_; clear hx_ T7; rintro e w7 ⟨rfl, hb⟩; have F7 := Lib.hid (F6.out.later hb); clear hb F6; have T8 : Hid True := trivial)
    | (have hx_ := T8; refine s_alloc F7.out rfl rfl zeroB32 rfl ?_; clear hx_ T8; intro w8 b5 h1 _; have F8 := Lib.hid h1; clear h1 F7; have T9 : Hid True := trivial)
    | (have hx_ := T9; refine s_store_b F8.out rfl rfl 0 rfl rfl r Lr.out rfl rfl ?_; clear hx_ T9; intro w9 h1; have F9 := Lib.hid h1; clear h1 F8; have T10 : Hid True := trivial)
    | (have hx_ := T10; refine s_load_b rfl rfl r Lr.out rfl (F9.out.lb 0 rfl) ?_; clear hx_ T10; have T11 : Hid True := trivial)
    | (go_at_call 86; have hx_ := T11; refine (CBR.out _).mono ?_; clear hx_ T11; rintro e w10 ⟨rfl, hb⟩; have F10 := Lib.hid (F9.out.later hb); clear hb F9; have T12 : Hid True := trivial)
    | (have hx_ := T12; refine s_alloc F10.out rfl rfl zeroB32 rfl ?_; clear hx_ T12; intro w11 b6 h1 _; have F11 := Lib.hid h1; clear h1 F10; have T13 : Hid True := trivial)
    | (have hx_ := T13; refine s_store_b F11.out rfl rfl 0 rfl rfl big Lbig.out rfl rfl ?_; clear hx_ T13; intro w12 h1; have F12 := Lib.hid h1; clear h1 F11))
  refine wp_region_rg' 11 [none, none, none, none, some (Tell.row 3 (fun xs => xs.toArray) 108), some (Tell.is (.agg (bvs k).toArray)), none, none, none, some (Tell.is (.agg (bvs s).toArray)), some (Tell.block (bvs (List.replicate 32 0)).toArray 25)] (by kernel_rfl) rfl (by kernel_rfl) ⟨Tell.row_good _ _ _, Tell.is_good _, Tell.is_good _, Tell.block_good _ _, trivial⟩ ?_
  simp only [List.take_succ_cons, List.take_zero, List.zip_cons_cons, List.zip_nil_right]
  try simp only [Act.put]
  try simp only [List.setIfInBounds_toArray, List.set_cons_succ, List.set_cons_zero]
  refine rg_e rfl fun N hNe => ?_
  go_big_quiet_step (fail)
  refine wpQuiet_nil ?_
  refine rg_e rfl fun N hNe => ?_
  go_big_quiet_step (fail)
  refine wpQuiet_nil ?_
  refine rg_e rfl fun N hNe => ?_
  go_big_quiet_step (fail)
  refine wpQuiet_nil ?_
  refine rg_e rfl fun N hNe => ?_
  go_big_quiet_step (fail)
  refine wpQuiet_nil ?_
  refine rg_rows3 rfl rfl rfl rfl rfl ?_
  intro b7
  try simp only [Act.put]
  try simp only [List.setIfInBounds_toArray, List.set_cons_succ, List.set_cons_zero]
  refine rg_call 85 _ rfl (vs := [.slice (some ⟨b7, 0, none⟩) 3 3]) rfl (fun _ _ => rfl) (v := .agg (bvs k).toArray) (fun w' hb ht => ?_) ?_
  · have G := F12.out.later hb
    have hB : (fun w : World => w.heap[b7]? = some (.cells #[.slice (some ⟨b6, 0, none⟩) 32 32, .slice (some ⟨b3, 64, none⟩) 32 32, .slice A n c] 108 (0, 0))) w' := told_at ht 0 rfl (by kernel_rfl)
    exact CH3.out w' _ G.below (lists3 hB Lbig.out Lpb.out HN.out (by decide) (by decide) HC.out
      (G.reads 0 rfl 0 32 big Lbig.out (fun j _ => by rw [Nat.zero_add, List.getElem?_toArray]))
      (G.reads 3 rfl 64 32 pb Lpb.out (fun j hj => by rw [List.getElem?_toArray, bvs_append, List.getElem?_append_right (by rw [bvs_length, Lnm.out]; omega), bvs_length, Lnm.out, bvs_append, List.getElem?_append_right (by rw [bvs_length, Lpre.out]; omega), bvs_length, Lpre.out, show 64 + j - 32 - 32 = j by omega]))
      ((HM.out.below G.below).more G.below.size))
  try simp only [Act.put]
  try simp only [List.setIfInBounds_toArray, List.set_cons_succ, List.set_cons_zero]
  refine rg_e rfl fun N hNe => ?_
  go_big_quiet_step (fail)
  refine wpQuiet_nil ?_
  refine rg_load _ _ rfl b3 0 rfl (bvs nm).toArray (fun w' hb _ => rangeAt_part ((F12.out.later hb).mem (i := 3) rfl) 0 _ (fun j hj => by rw [Nat.zero_add, List.getElem?_toArray, bvs_append, List.getElem?_append_left hj])) Tryz.underlying25 rfl (by rw [bvs_size, Lnm.out]; kernel_rfl) ?_
  refine rg_load _ _ rfl b5 0 rfl (bvs r).toArray (fun w' hb _ => (F12.out.later hb).range 1 rfl) Tryz.underlying25 rfl (by rw [bvs_size, Lr.out]; kernel_rfl) ?_
  refine rg_call 87 _ rfl (vs := [.agg (bvs k).toArray, .agg (bvs nm).toArray, .agg (bvs r).toArray]) rfl (fun _ _ => rfl) (v := .agg (bvs s).toArray) (fun w' hb _ => CMA.out w' (F12.out.later hb).below) ?_
  refine rg_new (run_alloc rfl zeroB32) ?_
  intro b8
  intro w13 hb hfs hnd hown
  have hB8 : w13.heap[b8]? = some (.cells (bvs (List.replicate 32 0)).toArray 25 (0, 0)) := hfs _ (List.mem_of_getElem? (i := 3) rfl)
  have F13 := Lib.hid (F12.out.found hb (hown b8 (by simp)).1 hB8)
  clear hb hfs hnd hown hB8 F12
  simp only [List.drop_succ_cons, List.drop_zero]
  try simp only [Act.put]
  try simp only [List.setIfInBounds_toArray, List.set_cons_succ, List.set_cons_zero]
  have T0 : Hid True := trivial
  go_wp2_with (first
    | (have hx_ := T0; refine s_store_b F13.out rfl rfl 0 rfl rfl s Ls.out rfl rfl ?_; clear hx_ T0; intro w14 h1; have F14 := Lib.hid h1; clear h1 F13; have T1 : Hid True := trivial)
    | (have hx_ := T1; refine s_alloc F14.out rfl rfl zeroB64 rfl ?_; clear hx_ T1; intro w15 b9 h1 _; have F15 := Lib.hid h1; clear h1 F14))
  refine wp_quiet_tail 2 (by kernel_rfl) (by kernel_rfl) ?_
  simp only [List.take_succ_cons, List.take_zero, List.drop_succ_cons, List.drop_zero]
  try simp only [Act.put]
  try simp only [List.setIfInBounds_toArray, List.set_cons_succ, List.set_cons_zero]
  repeat (go_big_quiet_step (fail))
  refine wpQuiet_nil ?_
  have T0 : Hid True := trivial
  go_wp2_with (have hx_ := T0; refine s_copy F15.out.drew rfl rfl 0 rfl rfl rfl (F15.out.drew.reads 2 rfl 0 32 big Lbig.out (fun j _ => by rw [Nat.zero_add, List.getElem?_toArray])) Lbig.out (by rw [bvs_size, List.length_replicate]; decide) ?_; clear hx_ T0; intro w16 h1; simp only [List.set_cons_zero] at h1; rw [put_half Lbig.out] at h1; have F16 := Lib.hid h1; clear h1 F15)
  refine wp_quiet_tail 2 (by kernel_rfl) (by kernel_rfl) ?_
  simp only [List.take_succ_cons, List.take_zero, List.drop_succ_cons, List.drop_zero]
  try simp only [Act.put]
  try simp only [List.setIfInBounds_toArray, List.set_cons_succ, List.set_cons_zero]
  repeat (go_big_quiet_step (fail))
  refine wpQuiet_nil ?_
  have T0 : Hid True := trivial
  go_wp2_with (first
    | (have hx_ := T0; refine s_copy F16.out.drew rfl rfl 0 rfl rfl rfl (F16.out.drew.reads 1 rfl 0 32 s Ls.out (fun j _ => by rw [Nat.zero_add, List.getElem?_toArray])) Ls.out (by rw [bvs_size, List.length_append, Lbig.out, List.length_replicate]; decide) ?_; clear hx_ T0; intro w17 h1; simp only [List.set_cons_zero] at h1; rw [put_half2 Lbig.out Ls.out] at h1; have F17 := Lib.hid h1; clear h1 F16; have T1 : Hid True := trivial)
    | (have hx_ := T1; refine wpList_load_arr rfl _ _ rfl b9 0 rfl (bvs (big ++ s)).toArray _ (by with_reducible exact F17.out.range 0 rfl) Tryz.underlying26 rfl (by rw [bvs_size, List.length_append, Lbig.out, Ls.out]; kernel_rfl) ?_; clear hx_ T1; have T2 : Hid True := trivial)
    | (have hx_ := T2; refine s_store F17.out rfl rfl 6 rfl rfl (bvs (big ++ s)).toArray rfl (by rw [bvs_size, bvs_size, List.length_append, Lbig.out, Ls.out, List.length_replicate]) (by rw [bvs_size, List.length_append, Lbig.out, Ls.out]; kernel_rfl) (bvs_cells _) ?_; clear hx_ T2; intro w18 h1; have F18 := Lib.hid h1; clear h1 F17))
  have hl := ret64 (by rw [List.length_append, Lbig.out, Ls.out] ) (F18.out.mem (i := 6) rfl)
  exact bodyPost_ret (v := .agg (bvs (big ++ s)).toArray) (by simp [results, Tryz.results54, asAddr, Act.put, hl]) rfl ⟨rfl, F18.out.below⟩
end Go.Proofs.YtnhdepmalejclaaGreatDoor

namespace Go.Proofs.YtnhdepmalejclaaGreatDoor
open Go.RowKit Go.Lib
theorem field_pub (cs : Array Value) (w : World) : (Instr.field 165 (.agg cs) 2).run Tryz.prog w = .ok (.agg (cs.extract 64 (64 + 32))) w := by kernel_rfl
set_option maxRecDepth 100000 in
set_option maxHeartbeats 2000000 in
theorem EPublic_any (Kt Kq : List Int) (seed : List UInt8) (hs : seed.length = 32) (w : World) (hw : NW w Kt Kq) : Calls Tryz.prog 57 #[.agg (bvs seed).toArray] w (BRet (pubF Kq seed) w) := by
  have F0 := Lib.hid (BK.start w)
  have T0 : Hid True := trivial
  have HSD := Lib.hid hs
  obtain ⟨nm, hnm⟩ : ∃ z, z = numF Kq seed := ⟨_, rfl⟩
  obtain ⟨pre, hpre⟩ : ∃ z, z = preF Kq seed := ⟨_, rfl⟩
  obtain ⟨pb, hpb⟩ : ∃ z, z = pubF Kq seed := ⟨_, rfl⟩
  have Lnm : Hid (nm.length = 32) := by show _ = _; rw [hnm]; exact numF_len _ _
  have Lpre : Hid (pre.length = 32) := by show _ = _; rw [hpre]; exact preF_len _ _
  have Lpb : Hid (pb.length = 32) := by show _ = _; rw [hpb]; exact pubF_len _ _
  have HX : Hid ((bvs (nm ++ (pre ++ pb))).toArray.extract 64 (64 + 32) = (bvs pb).toArray) := by
    show _ = _
    rw [← List.append_assoc, bvs_append]
    have h := extract_mid (bvs (nm ++ pre)) (bvs pb) [] 64 32 (by have := Lnm.out; have := Lpre.out; rw [bvs_length, List.length_append]; omega) (by rw [bvs_length, Lpb.out])
    rw [List.append_nil] at h
    exact h
  have CE : Hid (∀ w', Below w.heap.size w w' → Calls Tryz.prog 84 #[.agg (bvs seed).toArray] w' (fun e w2 => e = .returned (.agg (bvs (nm ++ (pre ++ pb))).toArray) ∧ Below w'.heap.size w' w2)) := fun w' hb => by rw [hnm, hpre, hpb]; exact Expand_any Kt Kq seed hs w' (hw.bel hb)
  rw [← hpb]
  clear hw hs hnm hpre hpb
  go_enter Tryz.func57, Tryz.ntmps57
  go_wp2_with (first
    | (have hx_ := T0; refine s_box F0.out rfl rfl rfl rfl ?_; clear hx_ T0; intro w1 b1 h1 _; have F1 := Lib.hid h1; clear h1 F0; have T1 : Hid True := trivial)
    | (have hx_ := T1; refine s_alloc F1.out rfl rfl zeroB32 rfl ?_; clear hx_ T1; intro w2 b2 h1 _; have F2 := Lib.hid h1; clear h1 F1; have T2 : Hid True := trivial)
    | (have hx_ := T2; refine s_load_b rfl rfl seed HSD.out rfl (F2.out.lb 1 rfl) ?_; clear hx_ T2; have T3 : Hid True := trivial)
    | (go_at_call 84; have hx_ := T3; refine (CE.out _ F2.out.below).mono ?_; clear hx_ T3; rintro e w3 ⟨rfl, hb⟩; have F3 := Lib.hid (F2.out.later hb); clear hb F2; have T4 : Hid True := trivial)
    | (have hx_ := T4; refine s_field rfl rfl rfl (.agg (bvs pb).toArray) (fun w' => (field_pub _ w').trans (by rw [HX.out])) ?_; clear hx_ T4; have T5 : Hid True := trivial)
    | (have hx_ := T5; refine s_store_b F3.out rfl rfl 0 rfl rfl pb Lpb.out rfl rfl ?_; clear hx_ T5; intro w4 h1; have F4 := Lib.hid h1; clear h1 F3; have T6 : Hid True := trivial))
  exact bodyPost_ret (v := .agg (bvs pb).toArray) (by simp [results, Tryz.results57, asAddr]; exact ret32 Lpb.out (F4.out.mem (i := 0) rfl)) rfl ⟨rfl, F4.out.below⟩
end Go.Proofs.YtnhdepmalejclaaGreatDoor

namespace Go.Proofs.YtnhdepmalejclaaGreatDoor
open Go.RowKit Go.Lib
def seedF (K : List Int) (word secret : List UInt8) : List UInt8 := sumF K (word ++ secret)
theorem seedF_len (K : List Int) (word secret : List UInt8) : (seedF K word secret).length = 32 := sumF_len _ _
set_option maxRecDepth 100000 in
set_option maxHeartbeats 2000000 in
theorem derived_any (Kt Kq : List Int) (word secret : List UInt8) (hl : word.length ≤ 100) (hs : secret.length = 32) (w : World) (hw : NW w Kt Kq) : Calls Tryz.prog 88 #[.string ⟨word.toArray⟩, .agg (bvs secret).toArray] w (BRet (seedF Kt word secret) w) := by
  have F0 := Lib.hid (BK.start w)
  have T0 : Hid True := trivial
  have HS := Lib.hid hs
  have HL := Lib.hid hl
  obtain ⟨l, hl0⟩ : ∃ z, z = seedF Kt word secret := ⟨_, rfl⟩
  have Ll : Hid (l.length = 32) := by show _ = _; rw [hl0]; exact seedF_len _ _ _
  have CS : Hid (∀ A c w', Below w.heap.size w w' → Reads w' w'.heap.size 1 A (word.length + secret.length) (bvs (word ++ secret)) → word.length + secret.length ≤ c → Calls Tryz.prog 31 #[.slice A (word.length + secret.length) c] w' (fun e w2 => e = .returned (.agg (bvs l).toArray) ∧ Below w'.heap.size w' w2)) := fun A c w' hb hr hc => by
    rw [hl0]
    exact (Sum256_any A _ c Kt (word ++ secret) w' (hw.bel hb).1 hr hc (by omega) (by omega)).mono fun e w2 h => h
  rw [← hl0]
  clear hw hs hl hl0
  go_enter Tryz.func88, Tryz.ntmps88
  go_wp2_with (first
    | (have hx_ := T0; refine s_box F0.out rfl rfl rfl rfl ?_; clear hx_ T0; intro w1 b1 h1 _; have F1 := Lib.hid h1; clear h1 F0; have T1 : Hid True := trivial)
    | (have hx_ := T1; refine s_alloc F1.out rfl rfl zeroB32 rfl ?_; clear hx_ T1; intro w2 b2 h1 _; have F2 := Lib.hid h1; clear h1 F1; have T2 : Hid True := trivial)
    | (have hx_ := T2; refine s_conv F2.out rfl rfl word rfl (by have := HL.out; simp only [maxLen]; omega) ?_; clear hx_ T2; intro v0 w3 h1; have F3 := Lib.hid h1; clear h1 F2; have T3 : Hid True := trivial)
    | (have hx_ := T3; refine s_appB F3.out rfl rfl rfl rfl (F3.out.bk.reads 1 rfl 0 32 secret HS.out (fun j _ => by rw [Nat.zero_add, List.getElem?_toArray])) (by have := HL.out; omega) ?_; clear hx_ T3; intro v1 w4 h1; obtain ⟨A1, c1, rfl, hc1, hr1⟩ := h1.own.reads; rw [List.length_append] at hc1 hr1 h1; have HC1 := Lib.hid hc1; have HR1 := Lib.hid hr1; have hk1 := h1.bk; clear h1; have F4 := Lib.hid hk1; clear hk1 hc1 hr1 F3; have T4 : Hid True := trivial)
    | (go_at_call 31; have hx_ := T4; refine (CS.out A1 c1 _ F4.out.below HR1.out HC1.out).mono ?_; clear hx_ T4; rintro e w5 ⟨rfl, hb⟩; have F5 := Lib.hid (F4.out.later hb); clear hb F4; have T5 : Hid True := trivial)
    | (have hx_ := T5; refine s_store_b F5.out rfl rfl 0 rfl rfl l Ll.out rfl rfl ?_; clear hx_ T5; intro w6 h1; have F6 := Lib.hid h1; clear h1 F5; have T6 : Hid True := trivial))
  exact bodyPost_ret (v := .agg (bvs l).toArray) (by simp [results, Tryz.results88, asAddr]; exact ret32 Ll.out (F6.out.mem (i := 0) rfl)) rfl ⟨rfl, F6.out.below⟩
set_option maxRecDepth 100000 in
set_option maxHeartbeats 2000000 in
theorem SignSeed_any (Kt Kq : List Int) (secret : List UInt8) (hs : secret.length = 32) (w : World) (hw : NW w Kt Kq) : Calls Tryz.prog 55 #[.agg (bvs secret).toArray] w (BRet (seedF Kt [115, 105, 103, 110] secret) w) := by
  have F0 := Lib.hid (BK.start w)
  have T0 : Hid True := trivial
  have HS := Lib.hid hs
  obtain ⟨l, hl0⟩ : ∃ z, z = seedF Kt [115, 105, 103, 110] secret := ⟨_, rfl⟩
  have Ll : Hid (l.length = 32) := by show _ = _; rw [hl0]; exact seedF_len _ _ _
  have CD : Hid (∀ w', Below w.heap.size w w' → Calls Tryz.prog 88 #[.string ⟨#[115, 105, 103, 110]⟩, .agg (bvs secret).toArray] w' (fun e w2 => e = .returned (.agg (bvs l).toArray) ∧ Below w'.heap.size w' w2)) := fun w' hb => by
    rw [hl0]; exact derived_any Kt Kq [115, 105, 103, 110] secret (by decide) hs w' (hw.bel hb)
  rw [← hl0]
  clear hw hs hl0
  go_enter Tryz.func55, Tryz.ntmps55
  go_wp2_with (first
    | (have hx_ := T0; refine s_box F0.out rfl rfl rfl rfl ?_; clear hx_ T0; intro w1 b1 h1 _; have F1 := Lib.hid h1; clear h1 F0; have T1 : Hid True := trivial)
    | (have hx_ := T1; refine s_alloc F1.out rfl rfl zeroB32 rfl ?_; clear hx_ T1; intro w2 b2 h1 _; have F2 := Lib.hid h1; clear h1 F1; have T2 : Hid True := trivial)
    | (have hx_ := T2; refine s_load_b rfl rfl secret HS.out rfl (F2.out.lb 1 rfl) ?_; clear hx_ T2; have T3 : Hid True := trivial)
    | (go_at_call 88; have hx_ := T3; refine (CD.out _ F2.out.below).mono ?_; clear hx_ T3; rintro e w3 ⟨rfl, hb⟩; have F3 := Lib.hid (F2.out.later hb); clear hb F2; have T4 : Hid True := trivial)
    | (have hx_ := T4; refine s_store_b F3.out rfl rfl 0 rfl rfl l Ll.out rfl rfl ?_; clear hx_ T4; intro w4 h1; have F4 := Lib.hid h1; clear h1 F3; have T5 : Hid True := trivial))
  exact bodyPost_ret (v := .agg (bvs l).toArray) (by simp [results, Tryz.results55, asAddr]; exact ret32 Ll.out (F4.out.mem (i := 0) rfl)) rfl ⟨rfl, F4.out.below⟩
set_option maxRecDepth 100000 in
set_option maxHeartbeats 2000000 in
theorem VrfSeed_any (Kt Kq : List Int) (secret : List UInt8) (hs : secret.length = 32) (w : World) (hw : NW w Kt Kq) : Calls Tryz.prog 58 #[.agg (bvs secret).toArray] w (BRet (seedF Kt [118, 114, 102] secret) w) := by
  have F0 := Lib.hid (BK.start w)
  have T0 : Hid True := trivial
  have HS := Lib.hid hs
  obtain ⟨l, hl0⟩ : ∃ z, z = seedF Kt [118, 114, 102] secret := ⟨_, rfl⟩
  have Ll : Hid (l.length = 32) := by show _ = _; rw [hl0]; exact seedF_len _ _ _
  have CD : Hid (∀ w', Below w.heap.size w w' → Calls Tryz.prog 88 #[.string ⟨#[118, 114, 102]⟩, .agg (bvs secret).toArray] w' (fun e w2 => e = .returned (.agg (bvs l).toArray) ∧ Below w'.heap.size w' w2)) := fun w' hb => by
    rw [hl0]; exact derived_any Kt Kq [118, 114, 102] secret (by decide) hs w' (hw.bel hb)
  rw [← hl0]
  clear hw hs hl0
  go_enter Tryz.func58, Tryz.ntmps58
  go_wp2_with (first
    | (have hx_ := T0; refine s_box F0.out rfl rfl rfl rfl ?_; clear hx_ T0; intro w1 b1 h1 _; have F1 := Lib.hid h1; clear h1 F0; have T1 : Hid True := trivial)
    | (have hx_ := T1; refine s_alloc F1.out rfl rfl zeroB32 rfl ?_; clear hx_ T1; intro w2 b2 h1 _; have F2 := Lib.hid h1; clear h1 F1; have T2 : Hid True := trivial)
    | (have hx_ := T2; refine s_load_b rfl rfl secret HS.out rfl (F2.out.lb 1 rfl) ?_; clear hx_ T2; have T3 : Hid True := trivial)
    | (go_at_call 88; have hx_ := T3; refine (CD.out _ F2.out.below).mono ?_; clear hx_ T3; rintro e w3 ⟨rfl, hb⟩; have F3 := Lib.hid (F2.out.later hb); clear hb F2; have T4 : Hid True := trivial)
    | (have hx_ := T4; refine s_store_b F3.out rfl rfl 0 rfl rfl l Ll.out rfl rfl ?_; clear hx_ T4; intro w4 h1; have F4 := Lib.hid h1; clear h1 F3; have T5 : Hid True := trivial))
  exact bodyPost_ret (v := .agg (bvs l).toArray) (by simp [results, Tryz.results58, asAddr]; exact ret32 Ll.out (F4.out.mem (i := 0) rfl)) rfl ⟨rfl, F4.out.below⟩
end Go.Proofs.YtnhdepmalejclaaGreatDoor

namespace Go.Proofs.YtnhdepmalejclaaGreatDoor
open Go.RowKit

set_option maxRecDepth 100000 in
set_option maxHeartbeats 400000 in
theorem four_any (base : Nat) (v : Value) (l : List UInt8) (m : Nat) (hm : m < 4294967296) (w : World) (hown : Own8 w base v l) (hn : l.length + 4 ≤ 140737488355328) (hb : base ≤ w.heap.size) :
    Calls Tryz.prog 73 #[v, .int .i64 (m : Int)] w fun e w' => ∃ v', e = .returned v' ∧ Own8 w' base v' (l ++ be4 m) ∧ w.grownBy w' v.ownBlock := by
  have hc := be4_cells m hm
  have H := Lib.hid hc; clear hc
  go_enter Tryz.func73, Tryz.ntmps73
  go_wp2_with (at_builtin; go_must (refine app8 rfl rfl rfl rfl (hown.alloc _) (news := be4 m) (by rw [H.out]; exact reads_new _ _ _ _ rfl) (by omega) (by simp; omega) ?_); intro v1 w1 hown1 hg1 hb1)
  go_ret
  refine ⟨_, rfl, hown1, ?_⟩
  exact (World.grownBy_alloc w _ _).trans hg1

def EncPost (ls : List (List UInt8)) (w : World) (e : Ending) (w' : World) : Prop :=
  ∃ v, e = .returned (.tuple #[v, .int .i64 (encE ls)]) ∧ Own8 w' w.heap.size v (encB ls) ∧ Below w.heap.size w w'

theorem EncPost.no {ls : List (List UInt8)} {w w' : World} (h : encOK ls = false) (hb : Below w.heap.size w w') : EncPost ls w (.returned (.tuple #[.slice none 0 0, .int .i64 6])) w' :=
  ⟨_, by rw [encE_no h], by rw [encB_no h]; exact own8_nil _ _, hb⟩
theorem EncPost.yes {ls : List (List UInt8)} {w w' : World} {v : Value} (h : encOK ls = true) (ho : Own8 w' w.heap.size v (be4 ls.length ++ members ls)) (hb : Below w.heap.size w w') : EncPost ls w (.returned (.tuple #[v, .int .i64 0])) w' :=
  ⟨_, by rw [encE_ok h], by rw [encB_ok h]; exact ho, hb⟩

set_option maxRecDepth 100000 in
set_option maxHeartbeats 1000000 in
theorem Encode_any (A : Option Addr) (c : Nat) (ls : List (List UInt8)) (w : World) (hl : Lists w w.heap.size A ls) (hn : ls.length ≤ 140737488355328) :
    Calls Tryz.prog 47 #[.slice A ls.length c] w (EncPost ls w) := by
  by_cases h1 : 65536 < ls.length
  · go_enter Tryz.func47, Tryz.ntmps47
    go_wp2
    go_ret2
    exact EncPost.no (encOK_no1 h1) (Below.refl _ _)
  · go_enter Tryz.func47, Tryz.ntmps47
    go_wp2
    go_loop [4, 15] (fun s i => ∃ k : Nat, k ≤ ls.length ∧ i = .int .i64 k ∧ s = .int .i64 ((4 + bulk (ls.take k) : Nat) : Int) ∧ ((4 + bulk (ls.take k) : Nat) : Int) ≤ 1048576) (fun _ i => ls.length - (intOf i).toNat)
    case atStart => exact ⟨0, Nat.zero_le _, rfl, rfl, by simp [bulk]⟩
    case round =>
      obtain ⟨k, hk, rfl, rfl, hs⟩ := hrel
      by_cases hlt : k < ls.length
      · obtain ⟨l, b, off, A', c', hlk, rfl, hb, hcell, hc', hr⟩ := hl.at_ k hlt
        have hts := Lib.hid (bulk_take_succ ls k hlt)
        have hle := Lib.hid (bulk_take_le ls (k + 1))
        obtain ⟨z, hz⟩ : ∃ z, z = 4 + bulk (ls.take k) := ⟨_, rfl⟩
        rw [← hz] at hs ⊢
        have Hz := Lib.hid hz; clear hz
        by_cases hov : 1048576 - ((z : Int) + 4) < (l.length : Int)
        · go_wp2
          go_ret2
          exact EncPost.no (encOK_no2 (by have := hts.out; have := hle.out; have := Hz.out; rw [hlk.out] at *; omega)) (Below.refl _ _)
        · go_wp2
          go_round
          case rel => exact ⟨k + 1, by omega, by go_num, by rw [hts.out, hlk.out]; have := Hz.out; go_num, by rw [hts.out, hlk.out]; have := Hz.out; omega⟩
          case measure => simp [intOf]; omega
      · obtain rfl : k = ls.length := by omega
        rw [List.take_length] at hs ⊢
        have hE := Lib.hid (encOK_of (l := ls) (by omega) (by omega))
        go_wp2_with (first
          | (at_make; refine make8 rfl rfl rfl rfl (n := 4 + bulk ls) (by simp) (by omega) (Nat.le_refl _) ?_; intro w1 hown1 hg1; have hb1 := below_none (Below.refl _ _) hg1)
          | (go_at_call 73; refine (four_any w.heap.size _ [] ls.length (by omega) _ hown1 (by simp) hb1.size).mono ?_; rintro e w2 ⟨v2, rfl, hown2, hg2⟩; have hb2 := below_own8 hb1 hown1 hg2; clear hg1 hown1 hg2))
        go_loopw [7, 38] (fun v i wr => ∃ k : Nat, k ≤ ls.length ∧ i = .int .i64 k ∧ Own8 wr w.heap.size v (be4 ls.length ++ members (ls.take k)) ∧ Below w.heap.size w wr) (fun _ i _ => ls.length - (intOf i).toNat)
        case atStart => exact ⟨0, Nat.zero_le _, rfl, by simpa [members] using hown2, hb2⟩
        case round =>
          obtain ⟨k, hk, rfl, hown, hbw⟩ := hrel
          by_cases hlt : k < ls.length
          · obtain ⟨l, b, off, A', c', hlk, rfl, hb, hcell, hc', hr⟩ := hl.at_b hbw k hlt
            have hts := Lib.hid (members_take_succ ls k hlt)
            have hle := bulk_take_le ls (k + 1)
            have hbs := bulk_take_succ ls k hlt
            have hml : (be4 ls.length ++ members (ls.take k)).length = 4 + bulk (ls.take k) := by rw [List.length_append, be4_length, members_length]
            rw [hlk.out] at hbs
            have hsz : (be4 ls.length ++ members (ls.take k)).length + 4 + l.length ≤ 1048576 := by omega
            have Hsz := Lib.hid hsz
            clear hle hbs hml hsz hs
            go_wp2_with (first
              | (go_at_call 73; refine (four_any w.heap.size _ _ l.length (by have := Hsz.out; omega) _ hown (by have := Hsz.out; omega) hbw.size).mono ?_; rintro e w3 ⟨v3, rfl, hown3, hg3⟩; have hb3 := below_own8 hbw hown hg3; clear hg3)
              | (at_builtin; go_must (refine app8 rfl rfl rfl rfl hown3 (hr.below hb3) (by have := Hsz.out; rw [List.length_append, be4_length]; omega) hb3.size ?_); intro v4 w4 hown4 hg4 hx4; have hb4 := below_own8 hb3 hown3 hg4))
            go_roundw
            case rel => exact ⟨k + 1, by omega, by go_num, by rw [hts.out, hlk.out]; simpa using hown4, hb4⟩
            case measure => simp [intOf]; omega
          · obtain rfl : k = ls.length := by omega
            go_wp2
            go_ret2
            exact EncPost.yes hE.out (by simpa using hown) hbw
end Go.Proofs.YtnhdepmalejclaaGreatDoor

namespace Go.Proofs.YtnhdepmalejclaaGreatDoor
open Go.RowKit

theorem Own8.reads {w : World} {base n c : Nat} {A : Option Addr} {l : List UInt8} (h : Own8 w base (.slice A n c) l) : Reads w w.heap.size 1 A n (bvs l) := by
  obtain ⟨A', c', h1, _, h2⟩ := own8_form h
  cases h1
  exact h2

end Go.Proofs.YtnhdepmalejclaaGreatDoor

namespace Go.Proofs.YtnhdepmalejclaaGreatDoor
end Go.Proofs.YtnhdepmalejclaaGreatDoor
