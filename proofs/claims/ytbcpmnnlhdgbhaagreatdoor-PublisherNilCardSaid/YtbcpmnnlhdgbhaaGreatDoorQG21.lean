/- The texts ED1 of this work, merged by wip/merge.py. No conditions. -/
import Derived.Test.YtbcpmnnlhdgbhaaGreatDoorQG14
import Derived.Test.YtbcpmnnlhdgbhaaGreatDoorQG15
import Derived.Test.YtbcpmnnlhdgbhaaGreatDoorQG16
import Derived.Test.YtbcpmnnlhdgbhaaGreatDoorQG20
namespace Go.Proofs.YtbcpmnnlhdgbhaaGreatDoor
open Go.RowKit Go.Lib
/-- The tables lie where they were laid. -/
def NW (w : World) (Kt Kq : List Int) : Prop := KT w Kt ∧ KQ w Kq ∧ Sc.Ord w
theorem NW.bel {w w' : World} {Kt Kq : List Int} (h : NW w Kt Kq) (hb : Below w.heap.size w w') : NW w' Kt Kq := ⟨h.1.bel hb, h.2.1.bel hb, Sc.Ord.below h.2.2 hb⟩
def clampF (l : List UInt8) : List UInt8 := (l.set 0 (l.getD 0 0 &&& 248)).set 31 (l.getD 31 0 &&& 127 ||| 64)
theorem clampF_len (l : List UInt8) : (clampF l).length = l.length := by simp [clampF]
def numF (K : List Int) (seed : List UInt8) : List UInt8 := clampF ((sum512F K seed).take 32)
def preF (K : List Int) (seed : List UInt8) : List UInt8 := (sum512F K seed).drop 32
def pubF (K : List Int) (seed : List UInt8) : List UInt8 := baseF (numF K seed)
theorem numF_len (K : List Int) (seed : List UInt8) : (numF K seed).length = 32 := by rw [numF, clampF_len, List.length_take, sum512F_len]; decide
theorem preF_len (K : List Int) (seed : List UInt8) : (preF K seed).length = 32 := by rw [preF, List.length_drop, sum512F_len]
theorem pubF_len (K : List Int) (seed : List UInt8) : (pubF K seed).length = 32 := baseF_len _
theorem zeroSec : ∀ w, (zeroValue 247).run Tryz.prog w = .ok (.agg (bvs (List.replicate 96 0)).toArray) w := fun w => by kernel_rfl
theorem put_first {x : List UInt8} (hx : x.length = 32) : putPart (bvs (List.replicate 96 0)).toArray 0 (bvs x) = (bvs (x ++ List.replicate 64 0)).toArray := by
  have h := putPart_mid [] (bvs (List.replicate 32 0)) (bvs (List.replicate 64 0)) (bvs x) 0 rfl (by rw [bvs_length, bvs_length, hx, List.length_replicate])
  rw [bvs_append]
  exact h
theorem put_second {x y : List UInt8} (hx : x.length = 32) (hy : y.length = 32) : putPart (bvs (x ++ List.replicate 64 0)).toArray 32 (bvs y) = (bvs (x ++ (y ++ List.replicate 32 0))).toArray := by
  have h := putPart_mid (bvs x) (bvs (List.replicate 32 0)) (bvs (List.replicate 32 0)) (bvs y) 32 (by rw [bvs_length, hx]) (by rw [bvs_length, bvs_length, hy, List.length_replicate])
  have e : bvs (List.replicate 64 0) = bvs (List.replicate 32 0) ++ bvs (List.replicate 32 0) := by rw [← bvs_append]; rfl
  rw [bvs_append x, bvs_append x, bvs_append y, e]
  exact h
theorem put_third {x y p : List UInt8} (hx : x.length = 32) (hy : y.length = 32) (hp : p.length = 32) : putPart (bvs (x ++ (y ++ List.replicate 32 0))).toArray 64 (bvs p) = (bvs (x ++ (y ++ p))).toArray := by
  have h := putPart_mid (bvs (x ++ y)) (bvs (List.replicate 32 0)) [] (bvs p) 64 (by rw [bvs_length, List.length_append, hx, hy]) (by rw [bvs_length, bvs_length, hp, List.length_replicate])
  rw [← List.append_assoc, bvs_append, ← List.append_assoc, bvs_append (x ++ y) p]
  simpa using h
theorem byte_in {x y : List UInt8} {k : Nat} (hk : k < x.length) : (bvs (x ++ y)).toArray[k]? = some (.int .u8 ((x.getD k 0).toNat : Int)) := by
  rw [List.getElem?_toArray, bvs, List.getElem?_map, List.getElem?_append_left hk, List.getElem?_eq_getElem hk]
  simp [bv, List.getD, List.getElem?_eq_getElem hk]
theorem set_in {x y : List UInt8} {k : Nat} (hk : k < x.length) {v : Value} {b : UInt8} (hv : v = bv b) : (bvs (x ++ y)).toArray.setIfInBounds k v = (bvs (x.set k b ++ y)).toArray := by
  subst hv
  apply Array.ext_getElem?
  intro i
  rw [Array.getElem?_setIfInBounds]
  simp only [List.getElem?_toArray, bvs, List.getElem?_map, List.size_toArray, List.length_map, List.length_append]
  by_cases e : k = i
  · subst e
    rw [if_pos rfl, if_pos (by omega), List.getElem?_append_left (by simpa using hk), List.getElem?_set_self hk]; rfl
  · rw [if_neg e]
    by_cases h2 : i < x.length
    · rw [List.getElem?_append_left h2, List.getElem?_append_left (by simpa using h2), List.getElem?_set_ne e]
    · rw [List.getElem?_append_right (by omega), List.getElem?_append_right (by rw [List.length_set]; omega), List.length_set]
theorem and248 (b : UInt8) : Value.int .u8 (bits BinOp.and IntKind.u8 (b.toNat : Int) 248) = bv (b &&& 248) := by
  have h0 : ∀ n : Fin 256, bits BinOp.and IntKind.u8 ((UInt8.ofNat n.val).toNat : Int) 248 = (((UInt8.ofNat n.val) &&& 248).toNat : Int) := by decide +kernel
  have := h0 ⟨b.toNat, b.toNat_lt⟩
  simp only [UInt8.ofNat_toNat] at this
  unfold bv
  rw [this]
theorem and127 (b : UInt8) : Value.int .u8 (bits BinOp.or IntKind.u8 (bits BinOp.and IntKind.u8 (b.toNat : Int) 127) 64) = bv (b &&& 127 ||| 64) := by
  have h0 : ∀ n : Fin 256, bits BinOp.or IntKind.u8 (bits BinOp.and IntKind.u8 ((UInt8.ofNat n.val).toNat : Int) 127) 64 = (((UInt8.ofNat n.val) &&& 127 ||| 64).toNat : Int) := by decide +kernel
  have := h0 ⟨b.toNat, b.toNat_lt⟩
  simp only [UInt8.ofNat_toNat] at this
  unfold bv
  rw [this]
theorem slH64_32 (g o : Nat) (w : World) : (Instr.sliceAt 32 (.pointer (some ⟨g, o, none⟩)) none (some (.int .i64 32)) none).run Tryz.prog w = .ok (.slice (some ⟨g, o, none⟩) 32 64) w := slH64 g o 32 (by decide) w
theorem sl64_32 (g o : Nat) (w : World) : (Instr.sliceAt 32 (.pointer (some ⟨g, o, none⟩)) (some (.int .i64 32)) none none).run Tryz.prog w = .ok (.slice (some ⟨g, o + 32, none⟩) 32 32) w := sl64 g o 32 (by decide) w
set_option maxRecDepth 100000 in
set_option maxHeartbeats 2000000 in
theorem Expand_any (Kt Kq : List Int) (seed : List UInt8) (hs : seed.length = 32) (w : World) (hw : NW w Kt Kq) : Calls Tryz.prog 138 #[.agg (bvs seed).toArray] w (fun e w' => e = .returned (.agg (bvs (numF Kq seed ++ (preF Kq seed ++ pubF Kq seed))).toArray) ∧ Below w.heap.size w w') := by
  have F0 := Lib.hid (BK.start w)
  have T0 : Hid True := trivial
  have HW := Lib.hid hw
  have HSD := Lib.hid hs
  obtain ⟨h, hh⟩ : ∃ h, h = sum512F Kq seed := ⟨_, rfl⟩
  have Hh : Hid (h.length = 64) := by show _ = _; rw [hh]; exact sum512F_len _ _
  obtain ⟨x, hx⟩ : ∃ x, x = h.take 32 := ⟨_, rfl⟩
  obtain ⟨y, hy⟩ : ∃ y, y = h.drop 32 := ⟨_, rfl⟩
  have Hx : Hid (x.length = 32) := by show _ = _; rw [hx, List.length_take, Hh.out]; decide
  have Hy : Hid (y.length = 32) := by show _ = _; rw [hy, List.length_drop, Hh.out]
  have HXY : Hid (h = x ++ y) := by show _ = _; rw [hx, hy, List.take_append_drop]
  obtain ⟨x1, hx1⟩ : ∃ z, z = x.set 0 (x.getD 0 0 &&& 248) := ⟨_, rfl⟩
  have Hx1 : Hid (x1.length = 32) := by show _ = _; rw [hx1, List.length_set]; exact Hx.out
  obtain ⟨nm, hnm⟩ : ∃ z, z = x1.set 31 (x1.getD 31 0 &&& 127 ||| 64) := ⟨_, rfl⟩
  have Hnm : Hid (nm.length = 32) := by show _ = _; rw [hnm, List.length_set]; exact Hx1.out
  have ENM : nm = numF Kq seed := by
    rw [hnm, hx1, numF, clampF, ← hh, ← hx]
    congr 2
    simp [List.getD]
  obtain ⟨pb, hpb⟩ : ∃ p, p = baseF nm := ⟨_, rfl⟩
  have Hpb : Hid (pb.length = 32) := by show _ = _; rw [hpb]; exact baseF_len _
  have HR : Hid (numF Kq seed ++ (preF Kq seed ++ pubF Kq seed) = nm ++ (y ++ pb)) := by show _ = _; rw [hpb, pubF, ← ENM, preF, ← hh, ← hy]
  rw [HR.out]
  have CB : Hid (∀ w, Calls Tryz.prog 140 #[.agg (bvs nm).toArray] w (fun e w' => e = .returned (.agg (bvs pb).toArray) ∧ Below w.heap.size w w')) := fun w => by rw [hpb]; exact Base_any nm Hnm.out w
  have S1 : Hid (∀ z, (bvs (x ++ z)).toArray.setIfInBounds 0 (.int .u8 (bits BinOp.and IntKind.u8 ((x.getD 0 0).toNat : Int) 248)) = (bvs (x1 ++ z)).toArray) := fun z => by rw [hx1]; exact set_in (by rw [Hx.out]; decide) (and248 _)
  have S2 : Hid (∀ z, (bvs (x1 ++ z)).toArray.setIfInBounds 31 (.int .u8 (bits BinOp.or IntKind.u8 (bits BinOp.and IntKind.u8 ((x1.getD 31 0).toNat : Int) 127) 64)) = (bvs (nm ++ z)).toArray) := fun z => by rw [hnm]; exact set_in (by rw [Hx1.out]; decide) (and127 _)
  have B1 : Hid (∀ z, (bvs (x ++ z)).toArray[0]? = some (.int .u8 ((x.getD 0 0).toNat : Int))) := fun z => byte_in (by rw [Hx.out]; decide)
  have B2 : Hid (∀ z, (bvs (x1 ++ z)).toArray[31]? = some (.int .u8 ((x1.getD 31 0).toNat : Int))) := fun z => byte_in (by rw [Hx1.out]; decide)
  obtain ⟨n0, hn0⟩ : ∃ n, n = (x.getD 0 0).toNat := ⟨_, rfl⟩
  obtain ⟨n1, hn1⟩ : ∃ n, n = (x1.getD 31 0).toNat := ⟨_, rfl⟩
  rw [← hn0] at S1 B1
  rw [← hn1] at S2 B2
  have Hsum := Lib.hid hh
  clear hh hx hy hx1 hnm ENM hpb hn0 hn1 hw hs
  have q1 := slAll32
  have q2 := slH64_32
  have q3 := sl64_32
  go_enter Tryz.func138, Tryz.ntmps138
  go_wp2_with (first
    | (have hx_ := T0; refine s_box F0.out rfl rfl rfl rfl ?_; clear hx_ T0; intro w1 b1 h1 _; have F1 := Lib.hid h1; clear h1 F0; have T1 : Hid True := trivial)
    | (have hx_ := T1; refine s_alloc F1.out rfl rfl zeroSec rfl ?_; clear hx_ T1; intro w2 b2 h1 _; have F2 := Lib.hid h1; clear h1 F1; have T2 : Hid True := trivial)
    | (go_at_call 176; have hx_ := T2; refine (Sum512_any (some ⟨b1, 0, none⟩) 32 32 Kq seed w2 (HW.out.2.1.bel F2.out.below) (F2.out.reads 1 rfl 0 32 seed HSD.out (fun j _ => by rw [Nat.zero_add, List.getElem?_toArray])) (by decide) (by decide) (by decide)).mono ?_; clear hx_ T2; rintro e w3 ⟨rfl, hb⟩; rw [← Hsum.out]; have F3 := Lib.hid (F2.out.later hb); clear hb F2; have T3 : Hid True := trivial)
    | (have hx_ := T3; refine s_alloc F3.out rfl rfl zeroB64 rfl ?_; clear hx_ T3; intro w4 b4 h1 _; have F4 := Lib.hid h1; clear h1 F3; have T4 : Hid True := trivial)
    | (have hx_ := T4; refine s_store F4.out rfl rfl 0 rfl rfl (bvs h).toArray rfl (by rw [bvs_size, bvs_size, Hh.out, List.length_replicate]) (by rw [bvs_size, Hh.out]; kernel_rfl) (bvs_cells _) ?_; clear hx_ T4; intro w5 h1; simp only [List.set_cons_zero] at h1; rw [HXY.out] at h1; have F5 := Lib.hid h1; clear h1 F4; have T5 : Hid True := trivial)
    | (have hx_ := T5; refine s_alloc F5.out rfl rfl zeroSec rfl ?_; clear hx_ T5; intro w6 b5 h1 _; have F6 := Lib.hid h1; clear h1 F5))
  refine wp_quiet_tail 3 (by kernel_rfl) (by kernel_rfl) ?_
  simp only [List.take_succ_cons, List.take_zero, List.drop_succ_cons, List.drop_zero]
  try simp only [Act.put]
  try simp only [List.setIfInBounds_toArray, List.set_cons_succ, List.set_cons_zero]
  repeat (go_big_quiet_step (fail))
  refine wpQuiet_nil ?_
  have T0 : Hid True := trivial
  go_wp2_with (have hx_ := T0; refine s_copy F6.out.drew rfl rfl 0 rfl rfl rfl (F6.out.drew.reads 1 rfl 0 32 x Hx.out (fun j hj => by rw [Nat.zero_add, List.getElem?_toArray, bvs_append, List.getElem?_append_left (by rw [bvs_length, Hx.out]; exact hj)])) Hx.out (by rw [bvs_size, List.length_replicate]; decide) ?_; clear hx_ T0; intro w7 h1; simp only [List.set_cons_zero] at h1; rw [put_first Hx.out] at h1; have F7 := Lib.hid h1; clear h1 F6)
  refine wp_quiet_tail 3 (by kernel_rfl) (by kernel_rfl) ?_
  simp only [List.take_succ_cons, List.take_zero, List.drop_succ_cons, List.drop_zero]
  try simp only [Act.put]
  try simp only [List.setIfInBounds_toArray, List.set_cons_succ, List.set_cons_zero]
  repeat (go_big_quiet_step (fail))
  refine wpQuiet_nil ?_
  have T0 : Hid True := trivial
  go_wp2_with (first
    | (have hx_ := T0; refine s_copy F7.out.drew rfl rfl 0 rfl rfl rfl (F7.out.drew.reads 1 rfl 32 32 y Hy.out (fun j hj => by rw [List.getElem?_toArray, bvs_append, List.getElem?_append_right (by rw [bvs_length, Hx.out]; omega), bvs_length, Hx.out, Nat.add_sub_cancel_left])) Hy.out (by rw [bvs_size, List.length_append, Hx.out, List.length_replicate]; decide) ?_; clear hx_ T0; intro w8 h1; simp only [List.set_cons_zero] at h1; rw [put_second Hx.out Hy.out] at h1; have c0 := (h1.cell 0 rfl 0).trans (B1.out _); have F8 := Lib.hid h1; clear h1 F7; have T1 : Hid True := trivial)
    | (have hx_ := T1; refine s_set8 F8.out rfl rfl 0 rfl 0 (by rw [bvs_size, List.length_append, Hx.out]; omega) rfl _ rfl ?_; clear hx_ T1 c0; intro w9 h1; simp only [List.set_cons_zero] at h1; rw [S1.out] at h1; have c1 := (h1.cell 0 rfl 31).trans (B2.out _); have F9 := Lib.hid h1; clear h1 F8; have T2 : Hid True := trivial)
    | (have hx_ := T2; refine s_set8 F9.out rfl rfl 0 rfl 31 (by rw [bvs_size, List.length_append, Hx1.out]; omega) rfl _ rfl ?_; clear hx_ T2 c1; intro w10 h1; simp only [List.set_cons_zero] at h1; rw [S2.out] at h1; have F10 := Lib.hid h1; clear h1 F9; have T3 : Hid True := trivial)
    | (have hx_ := T3; refine s_load F10.out rfl rfl 0 rfl 0 rfl (bvs nm).toArray (fun j hj => by rw [Nat.zero_add, List.getElem?_toArray, bvs_append, List.getElem?_append_left hj]) Tryz.underlying31 rfl (by rw [bvs_size, Hnm.out]; kernel_rfl) ?_; clear hx_ T3; have T4 : Hid True := trivial)
    | (go_at_call 140; have hx_ := T4; refine (CB.out _).mono ?_; clear hx_ T4; rintro e w11 ⟨rfl, hb⟩; have F11 := Lib.hid (F10.out.later hb); clear hb F10; have T5 : Hid True := trivial)
    | (have hx_ := T5; refine s_store_at F11.out rfl rfl 0 rfl 64 rfl (bvs pb).toArray rfl (by rw [bvs_size, bvs_size, List.length_append, List.length_append, Hnm.out, Hy.out, Hpb.out, List.length_replicate]; decide) (by rw [bvs_size, Hpb.out]; kernel_rfl) (bvs_cells _) ?_; clear hx_ T5; intro w12 h1; simp only [List.set_cons_zero] at h1; rw [put_third Hnm.out Hy.out Hpb.out] at h1; have F12 := Lib.hid h1; clear h1 F11; have T6 : Hid True := trivial)
    | (have hx_ := T6; refine wpList_load_arr rfl _ _ rfl b5 0 rfl (bvs (nm ++ (y ++ pb))).toArray _ (by with_reducible exact F12.out.range 0 rfl) Tryz.underlying247 rfl (by rw [bvs_size, List.length_append, List.length_append, Hnm.out, Hy.out, Hpb.out]; kernel_rfl) ?_; clear hx_ T6; have T7 : Hid True := trivial)
    | (have hx_ := T7; refine s_store F12.out rfl rfl 2 rfl rfl (bvs (nm ++ (y ++ pb))).toArray rfl (by rw [bvs_size, bvs_size, List.length_append, List.length_append, Hnm.out, Hy.out, Hpb.out, List.length_replicate]) (by rw [bvs_size, List.length_append, List.length_append, Hnm.out, Hy.out, Hpb.out]; kernel_rfl) (bvs_cells _) ?_; clear hx_ T7; intro w13 h1; have F13 := Lib.hid h1; clear h1 F12))
  have hl := ret_row (F13.out.mem (i := 2) rfl) Tryz.underlying247 rfl (by rw [bvs_size, List.length_append, List.length_append, Hnm.out, Hy.out, Hpb.out]; kernel_rfl)
  exact bodyPost_ret (v := .agg (bvs (nm ++ (y ++ pb))).toArray) (by simp [results, Tryz.results138, asAddr, Act.put, hl]) rfl ⟨rfl, F13.out.below⟩
end Go.Proofs.YtbcpmnnlhdgbhaaGreatDoor
