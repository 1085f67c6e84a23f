/- The texts Q7 Sc0 of this work, merged by wip/merge.py. No conditions. -/
import Derived.Test.YtbcpmnnlhdgbhaaGreatDoorQG09
import Derived.Test.YtbcpmnnlhdgbhaaGreatDoorQG05
import Derived.Test.YtbcpmnnlhdgbhaaGreatDoorQG11
import Derived.Test.YtbcpmnnlhdgbhaaGreatDoorQG00
import Derived.Test.YtbcpmnnlhdgbhaaGreatDoorProg
import Derived.Test.YtbcpmnnlhdgbhaaGreatDoorQG03
import Derived.Shelf.Spec.BitsCarry
import Derived.Deep.DeepMust
import Derived.BigQuiet
import Derived.Deep.MidRow
namespace Go.Proofs.YtbcpmnnlhdgbhaaGreatDoor
open Go.RowKit Go.Lib
def Sum64Post (y : List UInt8) (w : World) (e : Ending) (w' : World) : Prop := e = .returned (.agg (bvs y).toArray) ∧ Below w.heap.size w w'
theorem zeroB64 : ∀ w, (zeroValue 32).run Tryz.prog w = .ok (.agg (bvs (List.replicate 64 0)).toArray) w := fun w => by kernel_rfl
theorem zeroS512 : ∀ w, (zeroValue 332).run Tryz.prog w = .ok (.agg (w64s (R8.mk 0 0 0 0 0 0 0 0).l).toArray) w := fun w => by kernel_rfl
theorem w64s_cells (R : R8) : ((w64s R.l).toArray.all fun v => v.oneCell') = true := by kernel_rfl
theorem ret64 {w : World} {b : Nat} {l : List UInt8} {T : TypeId} (hl : l.length = 64) (h : w.heap[b]? = some (.cells (bvs l).toArray T (0, 0))) : (loadVar 32 ⟨b, 0, none⟩).run Tryz.prog w = .ok (.agg (bvs l).toArray) w := by
  have h1 := run_loadVar_mid (P := Tryz.prog) w b 0 32 (bvs l).toArray.toList _ (range_row h) Tryz.underlying32 rfl (by rw [Array.length_toList, bvs_size, hl]; kernel_rfl)
  rw [Array.toArray_toList] at h1
  exact h1
theorem row_reads {w : World} {g : Nat} {t : TypeId} {cur : Array Value} {l : List UInt8} {sz : Nat} (h : w.heap[g]? = some (.cells cur t (0, 0))) (hr : cur.toList.take sz = bvs l) (hl : l.length = sz) : Reads w w.heap.size 1 (some ⟨g, 0, none⟩) sz (bvs l) := by
  refine ⟨by rw [bvs_length]; omega, fun _ => ⟨_, rfl, lt_heap h, fun j u hu => ?_⟩⟩
  have hj : j < sz := by have := (List.getElem?_eq_some_iff.1 hu).1; rw [bvs_length] at this; omega
  rw [add_none, cell_of_row w g (0 + j) _ _ _ h, Nat.zero_add, ← Array.getElem?_toList]
  rw [← hr, List.getElem?_take, if_pos hj] at hu
  exact hu
theorem runQ_succ (K : List Int) (R : R8) (m : List UInt8) (i : Nat) : runQ K R m (i + 1) = blockQ K (runQ K R m i) (m.drop (128 * i)) := rfl
theorem reads_tail {w wr : World} {bb off o n r q : Nat} {m : List UInt8} (h : Reads w w.heap.size 1 (some ⟨bb, off, none⟩) n (bvs m)) (hb : Below w.heap.size w wr) (ho : o = off + 128 * q) (hq : 128 * q + r = n ∧ n = m.length) : Reads wr w.heap.size 1 (some ⟨bb, o, none⟩) r (bvs (m.drop (128 * q))) := by
  have h1 := reads_mid h hb (128 * q) r (by omega)
  rw [List.take_of_length_le (by rw [List.length_drop]; omega), ← ho] at h1
  exact h1
theorem overL_allQ (cs : Array Value) (l : List UInt8) (h : cs.size = l.length) : overL cs 0 l = (bvs l).toArray := by
  unfold overL
  rw [List.drop_of_length_le (by simp; omega)]
  simp
set_option maxRecDepth 100000 in
set_option maxHeartbeats 4000000 in
theorem Sum512_any (A : Option Addr) (n c : Nat) (K : List Int) (m : List UInt8) (w : World) (hkt : KQ w K) (hr : Reads w w.heap.size 1 A n (bvs m)) (hc : n ≤ c) (hm : 0 < n % 128) (hn : n ≤ 1000000) : Calls Tryz.prog 176 #[.slice A n c] w (Sum64Post (sum512F K m) w) := by
  have F0 := Lib.hid (BK.start w)
  have T0 : Hid True := trivial
  have hml : m.length = n := by have := hr.1; rw [bvs_length] at this; omega
  obtain ⟨bb, off, hA, hbb, _⟩ := hr.bytes (by omega)
  subst hA
  have HR := Lib.hid hr
  have HKT := Lib.hid hkt
  have HML := Lib.hid hml
  have HM := Lib.hid hm
  have HC := Lib.hid hc
  have HNN := Lib.hid hn
  obtain ⟨zs, hzs⟩ : ∃ zs, zs = (bvs (List.replicate 64 0)).toArray := ⟨_, rfl⟩
  have hz64 := zeroB64
  rw [← hzs] at hz64
  have HZS : Hid ((bvs (List.replicate 64 0)).toArray = zs) := hzs.symm
  have HZ : Hid (zs.size = 64) := by show _ = _; rw [hzs]; rfl
  have hzs5 := zeroS512
  clear hzs hbb hr hkt hml hm hc
  go_enter Tryz.func176, Tryz.ntmps176
  go_wp2_with (first
    | (have hx_ := T0; refine s_alloc F0.out rfl rfl hz64 rfl ?_; clear hx_ T0; intro w1 b2 h1 _; have F1 := Lib.hid h1; clear h1 F0; have T1 : Hid True := trivial)
    | (have hx_ := T1; refine s_alloc F1.out rfl rfl hzs5 rfl ?_; clear hx_ T1; intro w2 g h1 _; have F2 := Lib.hid h1; clear h1 F1; have T2 : Hid True := trivial)
    | (have hx_ := T2; refine s_store F2.out rfl rfl 0 rfl rfl (w64s z8q.l).toArray rfl rfl (by kernel_rfl) (w64s_cells _) ?_; clear hx_ T2; intro w3 h1; simp only [List.set_cons_zero] at h1; have F3 := Lib.hid h1; clear h1 F2))
  clear hz64 hzs5
  go_loopw [0] (fun b wr => ∃ i o r c' : Nat, b = .slice (some ⟨bb, o, none⟩) r c' ∧ Hid (128 * i ≤ n ∧ o = off + 128 * i ∧ r = n - 128 * i ∧ c' = c - 128 * i) ∧ Hid (BK w wr [(g, (w64s (runQ K z8q m i).l).toArray, 332), (b2, zs, 32)])) (fun b _ => lenV b)
  case atStart => exact ⟨0, off, n, c, rfl, ⟨by omega, by omega, by omega, by omega⟩, F3.out⟩
  case round =>
    obtain ⟨q, o, r, c', rfl, hI, hF⟩ := hrel
    clear F3
    by_cases hge : 128 ≤ r
    · have hge' : (128 : Int) ≤ (r : Int) := by omega
      have hi := hI.out
      have HB := Lib.hid (reads_mid HR.out hF.out.below (128 * q) (n - 128 * q) (by omega))
      rw [List.take_of_length_le (by rw [List.length_drop, HML.out]; exact Nat.le_refl _), ← hi.2.1, ← hi.2.2.1] at HB
      have HST := Lib.hid (stq_of (hF.out.mem (i := 0) rfl))
      have hsl : ∀ w_, (Instr.slice 96 (.slice (some ⟨bb, o, none⟩) r c') (some (.int .i64 128)) none none).run Tryz.prog w_ = .ok (.slice (some ⟨bb, o + 128, none⟩) (r - 128) (c' - 128)) w_ := fun w_ => by
        have h_ := slK8 (A := some ⟨bb, o, none⟩) (n := r) (c := c') (k := 128) hge w_
        rw [if_neg (by have := HM.out; have := HC.out; omega)] at h_
        exact h_
      have HCR : Hid (r ≤ c') := by show r ≤ c'; have := HC.out; omega
      have HGE := Lib.hid hge
      clear hi hge
      go_wp2_with (go_at_call 216; refine (blockQ_any (some ⟨bb, o, none⟩) r c' g 332 _ (runQ K z8q m q) K (m.drop (128 * q)) wr HST.out (HKT.out.bel hF.out.below) (HB.out.more hF.out.below.size) HGE.out HCR.out).mono ?_; rintro e w4 ⟨rfl, hf, hrow⟩; rw [over_st] at hrow; have h2 := hF.out.frm 0 rfl hf hrow; simp only [List.set_cons_zero] at h2; have F4 := Lib.hid h2; clear hf hrow h2)
      go_roundw
      case rel => exact ⟨q + 1, o + 128, r - 128, c' - 128, rfl, (by have h1 := hI.out; have h2 := HGE.out; exact ⟨by omega, by omega, by omega, by omega⟩), by show BK _ _ _; rw [runQ_succ]; exact F4.out⟩
      case measure => simp [lenV]; have := HGE.out; omega
    · have hge' : decide ((128 : Int) ≤ (r : Int)) = false := by simp; omega
      have hi := hI.out
      have HQE : Hid (q = m.length / 128) := by show q = _; rw [HML.out]; omega
      have HRL : Hid (r < 128) := by show r < 128; omega
      have HRE : Hid (r = m.length % 128) := by show r = _; rw [HML.out]; omega
      have HPL : Hid ((m.drop (128 * q)).length = r) := by show _ = _; rw [List.length_drop, HML.out]; omega
      have HO : Hid (o = off + 128 * q) := hi.2.1
      have HQ : Hid (128 * q + r = n ∧ n = m.length) := ⟨by omega, HML.out.symm⟩
      have HSN : Hid (overL (overL (bvs (List.replicate 256 0)).toArray 0 (m.drop (128 * q))) r [128] = overL (bvs (List.replicate 256 0)).toArray 0 (m.drop (128 * q) ++ [128])) := by
        show _ = _
        have h_ := overL_snoc (bvs (List.replicate 256 0)).toArray 0 (m.drop (128 * q)) [128] (by rw [HPL.out, bvs_size, List.length_replicate]; simp; omega)
        rw [HPL.out, Nat.zero_add] at h_
        exact h_
      obtain ⟨R, hRq⟩ : ∃ R, R = runQ K z8q m q := ⟨_, rfl⟩
      have HRR : Hid (R = runQ K z8q m q) := hRq
      rw [← hRq] at hF
      have hnI : (n : Int) ≤ 1000000 := by have := HNN.out; omega
      have hr0 : (r : Int) < 128 := by omega
      clear hi hRq hge hI
      by_cases hbig : 112 < r + 1
      · have hb1 : (112 : Int) < ((r + 1 : Nat) : Int) := by omega
        have hb2 : (112 : Int) < (r : Int) + 1 := by omega
        have HSZ : Hid (sizeQ m = 256) := by show _ = _; rw [sizeQ, ← HRE.out, if_pos hbig]
        clear hbig
        have T0 : Hid True := trivial
        have hmk := make256
        go_wp2_with (first
          | (have hx_ := T0; refine s_make hF.out rfl rfl hmk rfl ?_; clear hx_ T0; intro w2 gt h1 _; have F2 := Lib.hid h1; clear h1 hF hmk; have T1 : Hid True := trivial)
          | (have hx_ := T1; refine s_app F2.out rfl rfl 0 rfl rfl rfl (reads_tail HR.out F2.out.below HO.out HQ.out) (by rw [Nat.zero_add]; have := HRL.out; omega) (by rw [bvs_size, List.length_replicate]; exact Nat.le_refl _) ?_; clear hx_ T1; intro w3 h1; simp only [List.set_cons_zero] at h1; have F3 := Lib.hid h1; clear h1 F2; rw [Nat.zero_add]; have T2 : Hid True := trivial)
          | (have hx_ := T2; refine s_app (n := r) (m := 1) (c := 1) (news := [128]) (B := w3.heap.size + 1) (F3.out.later ((Below.refl _ _).alloc (Nat.le_refl _) _)) rfl rfl 0 rfl rfl rfl (reads_new w3 _ _ 1 rfl) (by have := HRL.out; omega) (by rw [overL_size _ _ _ (by rw [bvs_size, List.length_replicate, Nat.zero_add, HPL.out]; have := HRL.out; omega), bvs_size, List.length_replicate]; exact Nat.le_refl _) ?_; clear hx_ T2; intro w4 h1; simp only [List.set_cons_zero] at h1; rw [HSN.out] at h1; have F4 := Lib.hid h1; clear h1 F3; have T3 : Hid True := trivial)
          | (go_at_call 128; have hx_ := T3; refine (appended8 gt 248 256 5 _ _ _ (F4.out.mem (i := 0) rfl) (by decide) (by rw [overL_size _ _ _ (by rw [bvs_size, List.length_replicate, Nat.zero_add, List.length_append, HPL.out, List.length_cons, List.length_nil]; have := HRL.out; omega), bvs_size, List.length_replicate]; exact Nat.le_refl _)).mono ?_; clear hx_ T3; rintro e w5 ⟨rfl, h1⟩; have h2 := F4.out.rowIn 0 rfl h1; simp only [List.set_cons_zero] at h2; have F5 := Lib.hid h2; clear h1 h2 F4; have T4 : Hid True := trivial))
        obtain ⟨T, hT⟩ : ∃ T, T = tailQ m 256 := ⟨_, rfl⟩
        obtain ⟨TR, hTR⟩ : ∃ TR, TR = overL (overL (bvs (List.replicate 256 0)).toArray 0 (m.drop (128 * q) ++ [128])) 248 (appB ((m.length : Int) * 8) 8 8) := ⟨_, rfl⟩
        have HTR : Hid (TR.toList.take 256 = bvs T) := by
          show _ = _
          rw [hTR, hT, HQE.out]
          exact tail_row m (sz := 256) (N := 256) (by have := HRL.out; have := HRE.out; omega) (by decide)
        have HTL : Hid (T.length = 256) := by show _ = _; rw [hT]; exact tailQ_len m (by have := HRL.out; have := HRE.out; omega)
        rw [← HML.out, ← hTR] at F5
        have HSF : Hid (sum512F K m = outQ (runQ K R T 2) 8) := by
          show _ = _
          rw [sum512F, show sizeQ m = 256 from HSZ.out, hT, HRR.out, HQE.out]
        clear hT hTR HSN
        go_loopw [5] (fun b wr => ∃ (j : Nat) (A' : Option Addr), j ≤ 2 ∧ b = .slice A' (256 - 128 * j) (256 - 128 * j) ∧ Hid (j < 2 → A' = some ⟨gt, 128 * j, none⟩) ∧ Hid (BK w wr [(gt, TR, 5), (g, (w64s (runQ K R T j).l).toArray, 332), (b2, zs, 32)])) (fun b _ => lenV b)
        case atStart => exact ⟨0, some ⟨gt, 0, none⟩, Nat.zero_le _, rfl, fun _ => rfl, F5.out⟩
        case round =>
          obtain ⟨j, A', hj, rfl, hA, hG⟩ := hrel
          clear F5
          obtain rfl | rfl | rfl : j = 0 ∨ j = 1 ∨ j = 2 := by omega
          · obtain rfl : A' = some ⟨gt, 0, none⟩ := hA.out (by decide)
            have HTB := Lib.hid (reads_mid (row_reads (hG.out.mem (i := 0) rfl) HTR.out HTL.out) (Below.refl _ _) 0 256 (by decide))
            rw [Nat.zero_add, List.take_of_length_le (l := T.drop 0) (by rw [List.length_drop, HTL.out]; decide)] at HTB
            have HST := Lib.hid (stq_of (hG.out.mem (i := 1) rfl))
            have hsl := fun w_ => slK8 (A := some ⟨gt, 0, none⟩) (n := 256) (c := 256) (k := 128) (by decide) w_
            simp only [Int.cast_ofNat_Int] at hsl
            go_wp2_with (go_at_call 216; refine (blockQ_any (some ⟨gt, 0, none⟩) 256 256 g 332 _ (runQ K R T 0) K (T.drop 0) wr HST.out (HKT.out.bel hG.out.below) HTB.out (by decide) (by decide)).mono ?_; rintro e w6 ⟨rfl, hf, hrow⟩; rw [over_st] at hrow; have h2 := hG.out.frm 1 rfl hf hrow; simp only [List.set_cons_succ, List.set_cons_zero] at h2; have F6 := Lib.hid h2; clear hf hrow h2)
            go_roundw
            case rel => exact ⟨0 + 1, _, by decide, rfl, fun _ => rfl, by show BK _ _ _; rw [runQ_succ]; exact F6.out⟩
            case measure => simp [lenV]
          · obtain rfl : A' = some ⟨gt, 128, none⟩ := hA.out (by decide)
            have HTB := Lib.hid (reads_mid (row_reads (hG.out.mem (i := 0) rfl) HTR.out HTL.out) (Below.refl _ _) 128 128 (by decide))
            rw [Nat.zero_add, List.take_of_length_le (l := T.drop 128) (by rw [List.length_drop, HTL.out]; decide)] at HTB
            have HST := Lib.hid (stq_of (hG.out.mem (i := 1) rfl))
            have hsl := fun w_ => slK8 (A := some ⟨gt, 128, none⟩) (n := 128) (c := 128) (k := 128) (by decide) w_
            simp only [Int.cast_ofNat_Int] at hsl
            go_wp2_with (go_at_call 216; refine (blockQ_any (some ⟨gt, 128, none⟩) 128 128 g 332 _ (runQ K R T 1) K (T.drop 128) wr HST.out (HKT.out.bel hG.out.below) HTB.out (by decide) (by decide)).mono ?_; rintro e w6 ⟨rfl, hf, hrow⟩; rw [over_st] at hrow; have h2 := hG.out.frm 1 rfl hf hrow; simp only [List.set_cons_succ, List.set_cons_zero] at h2; have F6 := Lib.hid h2; clear hf hrow h2)
            go_roundw
            case rel => exact ⟨1 + 1, _, by decide, rfl, fun h => absurd h (by decide), by show BK _ _ _; rw [runQ_succ]; exact F6.out⟩
            case measure => simp [lenV]
          · obtain ⟨RR, hRR⟩ : ∃ RR, RR = runQ K R T 2 := ⟨_, rfl⟩
            rw [← hRR] at hG HSF
            clear hA hRR
            have hz := zeroB64
            rw [HZS.out] at hz
            have T0 : Hid True := trivial
            go_wp2_with (first
              | (have hx_ := T0; refine s_alloc hG.out rfl rfl hz rfl ?_; clear hx_ T0; intro w7 bo h1 _; have F7 := Lib.hid h1; clear h1 hG hz; have T1 : Hid True := trivial)
              | (have hx_ := T1; refine wpList_load_arr rfl _ _ rfl g 0 rfl (w64s RR.l).toArray _ (by with_reducible exact F7.out.range 2 rfl) Tryz.underlying332 rfl (by kernel_rfl) ?_; clear hx_ T1))
            have G7 : Hid (BK w w7 [(bo, overL zs 0 (outQ RR 0), 32), (gt, TR, 5), (g, (w64s RR.l).toArray, 332), (b2, zs, 32)]) := by
              have h := F7.out
              show BK _ _ _
              rw [show outQ RR 0 = [] from rfl, overL_nil]
              exact h
            clear F7
            go_loopw [47] (fun iv wr => ∃ n : Nat, n ≤ 8 ∧ iv = .int .i64 (n : Int) ∧ Hid (BK w wr [(bo, overL zs 0 (outQ RR n), 32), (gt, TR, 5), (g, (w64s RR.l).toArray, 332), (b2, zs, 32)])) (fun i _ => 8 - (intOf i).toNat)
            case atStart => exact ⟨0, Nat.zero_le _, rfl, G7.out⟩
            case round =>
              obtain ⟨n, hn, rfl, hO⟩ := hrel
              clear G7
              by_cases hlt : n < 8
              · have hlt' : (n : Int) < 8 := by omega
                have hn0 : (0 : Int) ≤ (n : Int) := by omega
                obtain ⟨x, hx⟩ : ∃ x, RR.l[n]? = some x := ⟨RR.l[n]'(by rw [l_len]; exact hlt), List.getElem?_eq_getElem _⟩
                have hidx := run_index8z RR n x hx
                have hsl : ∀ w_, (Instr.sliceAt 32 (.pointer (some ⟨bo, 0, none⟩)) none (some (.int .i64 (8 * (n : Int)))) none).run Tryz.prog w_ = .ok (.slice (some ⟨bo, 0, none⟩) (8 * n) 64) w_ := fun w_ => by
                  have h_ := slH64 bo 0 (8 * n) (by omega) w_
                  rw [show ((8 * n : Nat) : Int) = 8 * (n : Int) from by omega] at h_
                  exact h_
                have SN : Hid (overL (overL zs 0 (outQ RR n)) (8 * n) (appB x 8 8) = overL zs 0 (outQ RR (n + 1))) := by
                  show _ = _
                  have h_ := overL_snoc zs 0 (outQ RR n) (appB x 8 8) (by rw [outQ_len RR n (by omega), appB_len, HZ.out]; omega)
                  rw [outQ_len RR n (by omega), Nat.zero_add] at h_
                  rw [h_, outQ_succ hx]
                have HSZ' : Hid ((overL zs 0 (outQ RR n)).size = 64) := by show _ = _; rw [overL_size _ _ _ (by rw [outQ_len RR n (by omega), HZ.out]; omega), HZ.out]
                have HN := Lib.hid hlt
                clear hx hlt hn
                go_wp2_with (go_at_call 128; refine (appended8 bo (8 * n) 64 32 _ x _ (hO.out.mem (i := 0) rfl) (by have := HN.out; omega) (by rw [HSZ'.out]; exact Nat.le_refl _)).mono ?_; rintro e w8 ⟨rfl, h1⟩; have h2 := hO.out.rowIn 0 rfl h1; simp only [List.set_cons_zero] at h2; rw [SN.out] at h2; have F8 := Lib.hid h2; clear h1 h2)
                go_roundw
                case rel => exact ⟨n + 1, HN.out, by go_num, F8.out⟩
                case measure => simp [intOf]; have := HN.out; omega
              · obtain rfl : n = 8 := by omega
                have hd : decide (((8 : Nat) : Int) < 8) = false := by decide
                obtain ⟨l, hl⟩ : ∃ l, l = outQ RR 8 := ⟨_, rfl⟩
                have Hl : Hid (l.length = 64) := by show _ = _; rw [hl]; exact outQ_len RR 8 (by decide)
                rw [overL_allQ zs _ (by rw [HZ.out, outQ_len RR 8 (by decide)]), ← hl] at hO
                have HLL := Lib.hid hl
                clear hl
                go_wp2_with (first
                  | (refine wpList_load_arr rfl _ _ rfl bo 0 rfl (bvs l).toArray _ (by with_reducible exact hO.out.range 0 rfl) Tryz.underlying32 rfl (by rw [bvs_size, Hl.out]; kernel_rfl) ?_)
                  | (refine s_store hO.out rfl rfl 3 rfl rfl (bvs l).toArray rfl (by rw [bvs_size, Hl.out, HZ.out]) (by rw [bvs_size, Hl.out]; kernel_rfl) (bvs_cells _) ?_; intro w9 h1; have F9 := Lib.hid h1; clear h1 hO))
                exact bodyPost_ret (v := .agg (bvs l).toArray) (by simp [results, Tryz.results176, asAddr]; exact ret64 Hl.out (F9.out.mem (i := 3) rfl)) rfl ⟨by rw [HSF.out, ← HLL.out], F9.out.below⟩
      · have hb1 : decide ((112 : Int) < ((r + 1 : Nat) : Int)) = false := by simp; omega
        have hb2 : decide ((112 : Int) < (r : Int) + 1) = false := by simp; omega
        have HSZ : Hid (sizeQ m = 128) := by show _ = _; rw [sizeQ, ← HRE.out, if_neg hbig]
        have HRB : Hid (r + 9 ≤ 128) := by show r + 9 ≤ 128; omega
        clear hbig
        have T0 : Hid True := trivial
        have hmk := make256
        go_wp2_with (first
          | (have hx_ := T0; refine s_make hF.out rfl rfl hmk rfl ?_; clear hx_ T0; intro w2 gt h1 _; have F2 := Lib.hid h1; clear h1 hF hmk; have T1 : Hid True := trivial)
          | (have hx_ := T1; refine s_app F2.out rfl rfl 0 rfl rfl rfl (reads_tail HR.out F2.out.below HO.out HQ.out) (by rw [Nat.zero_add]; have := HRL.out; omega) (by rw [bvs_size, List.length_replicate]; exact Nat.le_refl _) ?_; clear hx_ T1; intro w3 h1; simp only [List.set_cons_zero] at h1; have F3 := Lib.hid h1; clear h1 F2; rw [Nat.zero_add]; have T2 : Hid True := trivial)
          | (have hx_ := T2; refine s_app (n := r) (m := 1) (c := 1) (news := [128]) (B := w3.heap.size + 1) (F3.out.later ((Below.refl _ _).alloc (Nat.le_refl _) _)) rfl rfl 0 rfl rfl rfl (reads_new w3 _ _ 1 rfl) (by have := HRL.out; omega) (by rw [overL_size _ _ _ (by rw [bvs_size, List.length_replicate, Nat.zero_add, HPL.out]; have := HRL.out; omega), bvs_size, List.length_replicate]; exact Nat.le_refl _) ?_; clear hx_ T2; intro w4 h1; simp only [List.set_cons_zero] at h1; rw [HSN.out] at h1; have F4 := Lib.hid h1; clear h1 F3; have T3 : Hid True := trivial)
          | (go_at_call 128; have hx_ := T3; refine (appended8 gt 120 256 5 _ _ _ (F4.out.mem (i := 0) rfl) (by decide) (by rw [overL_size _ _ _ (by rw [bvs_size, List.length_replicate, Nat.zero_add, List.length_append, HPL.out, List.length_cons, List.length_nil]; have := HRL.out; omega), bvs_size, List.length_replicate]; exact Nat.le_refl _)).mono ?_; clear hx_ T3; rintro e w5 ⟨rfl, h1⟩; have h2 := F4.out.rowIn 0 rfl h1; simp only [List.set_cons_zero] at h2; have F5 := Lib.hid h2; clear h1 h2 F4; have T4 : Hid True := trivial))
        obtain ⟨T, hT⟩ : ∃ T, T = tailQ m 128 := ⟨_, rfl⟩
        obtain ⟨TR, hTR⟩ : ∃ TR, TR = overL (overL (bvs (List.replicate 256 0)).toArray 0 (m.drop (128 * q) ++ [128])) 120 (appB ((m.length : Int) * 8) 8 8) := ⟨_, rfl⟩
        have HTR : Hid (TR.toList.take 128 = bvs T) := by
          show _ = _
          rw [hTR, hT, HQE.out]
          exact tail_row m (sz := 128) (N := 256) (by have := HRB.out; have := HRE.out; omega) (by decide)
        have HTL : Hid (T.length = 128) := by show _ = _; rw [hT]; exact tailQ_len m (by have := HRB.out; have := HRE.out; omega)
        rw [← HML.out, ← hTR] at F5
        have HSF : Hid (sum512F K m = outQ (runQ K R T 1) 8) := by
          show _ = _
          rw [sum512F, show sizeQ m = 128 from HSZ.out, hT, HRR.out, HQE.out]
        clear hT hTR HSN
        go_loopw [5] (fun b wr => ∃ (j : Nat) (A' : Option Addr), j ≤ 1 ∧ b = .slice A' (128 - 128 * j) (256 - 128 * j) ∧ Hid (j < 1 → A' = some ⟨gt, 128 * j, none⟩) ∧ Hid (BK w wr [(gt, TR, 5), (g, (w64s (runQ K R T j).l).toArray, 332), (b2, zs, 32)])) (fun b _ => lenV b)
        case atStart => exact ⟨0, some ⟨gt, 0, none⟩, Nat.zero_le _, rfl, fun _ => rfl, F5.out⟩
        case round =>
          obtain ⟨j, A', hj, rfl, hA, hG⟩ := hrel
          clear F5
          obtain rfl | rfl : j = 0 ∨ j = 1 := by omega
          · obtain rfl : A' = some ⟨gt, 0, none⟩ := hA.out (by decide)
            have HTB := Lib.hid (reads_mid (row_reads (hG.out.mem (i := 0) rfl) HTR.out HTL.out) (Below.refl _ _) 0 128 (by decide))
            rw [Nat.zero_add, List.take_of_length_le (l := T.drop 0) (by rw [List.length_drop, HTL.out]; decide)] at HTB
            have HST := Lib.hid (stq_of (hG.out.mem (i := 1) rfl))
            have hsl := fun w_ => slK8 (A := some ⟨gt, 0, none⟩) (n := 128) (c := 256) (k := 128) (by decide) w_
            simp only [Int.cast_ofNat_Int] at hsl
            go_wp2_with (go_at_call 216; refine (blockQ_any (some ⟨gt, 0, none⟩) 128 256 g 332 _ (runQ K R T 0) K (T.drop 0) wr HST.out (HKT.out.bel hG.out.below) HTB.out (by decide) (by decide)).mono ?_; rintro e w6 ⟨rfl, hf, hrow⟩; rw [over_st] at hrow; have h2 := hG.out.frm 1 rfl hf hrow; simp only [List.set_cons_succ, List.set_cons_zero] at h2; have F6 := Lib.hid h2; clear hf hrow h2)
            go_roundw
            case rel => exact ⟨0 + 1, _, by decide, rfl, fun h => absurd h (by decide), by show BK _ _ _; rw [runQ_succ]; exact F6.out⟩
            case measure => simp [lenV]
          · obtain ⟨RR, hRR⟩ : ∃ RR, RR = runQ K R T 1 := ⟨_, rfl⟩
            rw [← hRR] at hG HSF
            clear hA hRR
            have hz := zeroB64
            rw [HZS.out] at hz
            have T0 : Hid True := trivial
            go_wp2_with (first
              | (have hx_ := T0; refine s_alloc hG.out rfl rfl hz rfl ?_; clear hx_ T0; intro w7 bo h1 _; have F7 := Lib.hid h1; clear h1 hG hz; have T1 : Hid True := trivial)
              | (have hx_ := T1; refine wpList_load_arr rfl _ _ rfl g 0 rfl (w64s RR.l).toArray _ (by with_reducible exact F7.out.range 2 rfl) Tryz.underlying332 rfl (by kernel_rfl) ?_; clear hx_ T1))
            have G7 : Hid (BK w w7 [(bo, overL zs 0 (outQ RR 0), 32), (gt, TR, 5), (g, (w64s RR.l).toArray, 332), (b2, zs, 32)]) := by
              have h := F7.out
              show BK _ _ _
              rw [show outQ RR 0 = [] from rfl, overL_nil]
              exact h
            clear F7
            go_loopw [47] (fun iv wr => ∃ n : Nat, n ≤ 8 ∧ iv = .int .i64 (n : Int) ∧ Hid (BK w wr [(bo, overL zs 0 (outQ RR n), 32), (gt, TR, 5), (g, (w64s RR.l).toArray, 332), (b2, zs, 32)])) (fun i _ => 8 - (intOf i).toNat)
            case atStart => exact ⟨0, Nat.zero_le _, rfl, G7.out⟩
            case round =>
              obtain ⟨n, hn, rfl, hO⟩ := hrel
              clear G7
              by_cases hlt : n < 8
              · have hlt' : (n : Int) < 8 := by omega
                have hn0 : (0 : Int) ≤ (n : Int) := by omega
                obtain ⟨x, hx⟩ : ∃ x, RR.l[n]? = some x := ⟨RR.l[n]'(by rw [l_len]; exact hlt), List.getElem?_eq_getElem _⟩
                have hidx := run_index8z RR n x hx
                have hsl : ∀ w_, (Instr.sliceAt 32 (.pointer (some ⟨bo, 0, none⟩)) none (some (.int .i64 (8 * (n : Int)))) none).run Tryz.prog w_ = .ok (.slice (some ⟨bo, 0, none⟩) (8 * n) 64) w_ := fun w_ => by
                  have h_ := slH64 bo 0 (8 * n) (by omega) w_
                  rw [show ((8 * n : Nat) : Int) = 8 * (n : Int) from by omega] at h_
                  exact h_
                have SN : Hid (overL (overL zs 0 (outQ RR n)) (8 * n) (appB x 8 8) = overL zs 0 (outQ RR (n + 1))) := by
                  show _ = _
                  have h_ := overL_snoc zs 0 (outQ RR n) (appB x 8 8) (by rw [outQ_len RR n (by omega), appB_len, HZ.out]; omega)
                  rw [outQ_len RR n (by omega), Nat.zero_add] at h_
                  rw [h_, outQ_succ hx]
                have HSZ' : Hid ((overL zs 0 (outQ RR n)).size = 64) := by show _ = _; rw [overL_size _ _ _ (by rw [outQ_len RR n (by omega), HZ.out]; omega), HZ.out]
                have HN := Lib.hid hlt
                clear hx hlt hn
                go_wp2_with (go_at_call 128; refine (appended8 bo (8 * n) 64 32 _ x _ (hO.out.mem (i := 0) rfl) (by have := HN.out; omega) (by rw [HSZ'.out]; exact Nat.le_refl _)).mono ?_; rintro e w8 ⟨rfl, h1⟩; have h2 := hO.out.rowIn 0 rfl h1; simp only [List.set_cons_zero] at h2; rw [SN.out] at h2; have F8 := Lib.hid h2; clear h1 h2)
                go_roundw
                case rel => exact ⟨n + 1, HN.out, by go_num, F8.out⟩
                case measure => simp [intOf]; have := HN.out; omega
              · obtain rfl : n = 8 := by omega
                have hd : decide (((8 : Nat) : Int) < 8) = false := by decide
                obtain ⟨l, hl⟩ : ∃ l, l = outQ RR 8 := ⟨_, rfl⟩
                have Hl : Hid (l.length = 64) := by show _ = _; rw [hl]; exact outQ_len RR 8 (by decide)
                rw [overL_allQ zs _ (by rw [HZ.out, outQ_len RR 8 (by decide)]), ← hl] at hO
                have HLL := Lib.hid hl
                clear hl
                go_wp2_with (first
                  | (refine wpList_load_arr rfl _ _ rfl bo 0 rfl (bvs l).toArray _ (by with_reducible exact hO.out.range 0 rfl) Tryz.underlying32 rfl (by rw [bvs_size, Hl.out]; kernel_rfl) ?_)
                  | (refine s_store hO.out rfl rfl 3 rfl rfl (bvs l).toArray rfl (by rw [bvs_size, Hl.out, HZ.out]) (by rw [bvs_size, Hl.out]; kernel_rfl) (bvs_cells _) ?_; intro w9 h1; have F9 := Lib.hid h1; clear h1 hO))
                exact bodyPost_ret (v := .agg (bvs l).toArray) (by simp [results, Tryz.results176, asAddr]; exact ret64 Hl.out (F9.out.mem (i := 3) rfl)) rfl ⟨by rw [HSF.out, ← HLL.out], F9.out.below⟩
end Go.Proofs.YtbcpmnnlhdgbhaaGreatDoor

namespace Go.Proofs.YtbcpmnnlhdgbhaaGreatDoor.Sc
open Go.RowKit
theorem run_Add64 (x y c : Nat) (hc : c ≤ 1) (w : World) : (callFunc 181 #[.int .u64 x, .int .u64 y, .int .u64 c]).run Tryz.prog w =
      .ok (.value (.tuple #[.int .u64 (((x + y + c) % 18446744073709551616 : Nat) : Int), .int .u64 (((x + y + c) / 18446744073709551616 : Nat) : Int)])) w := by
  rw [run_callFunc_extern Tryz.func181 (by kernel_rfl) (by kernel_rfl) (by kernel_rfl) (e := add64Entry) (by kernel_rfl), run_add64 x y c (by omega) (by omega) (by omega) (by omega)]
  simp only [Result.andThen]
  congr 5 <;> omega
theorem run_Sub64 (x y b : Nat) (hb : b ≤ 1) (w : World) : (callFunc 257 #[.int .u64 x, .int .u64 y, .int .u64 b]).run Tryz.prog w =
      .ok (.value (.tuple #[.int .u64 (((x + 18446744073709551616 - y - b) % 18446744073709551616 : Nat) : Int), .int .u64 ((if x < y + b then 1 else 0 : Nat) : Int)])) w := by
  rw [run_callFunc_extern Tryz.func257 (by kernel_rfl) (by kernel_rfl) (by kernel_rfl) (e := sub64Entry) (by kernel_rfl), run_sub64 x y b hb]
  rfl
/-- Four words, the least first. -/
structure W4 where
  a : Nat
  b : Nat
  c : Nat
  d : Nat
def W4.ok (x : W4) : Prop := x.a < 18446744073709551616 ∧ x.b < 18446744073709551616 ∧ x.c < 18446744073709551616 ∧ x.d < 18446744073709551616
def W4.cs (x : W4) : Array Value := #[.int .u64 x.a, .int .u64 x.b, .int .u64 x.c, .int .u64 x.d]
def W4.val (x : W4) : Nat := x.a + 18446744073709551616 * x.b + 340282366920938463463374607431768211456 * x.c + 6277101735386680763835789423207666416102355444464034512896 * x.d
/-- The first k words of the sum are done. -/
def AddInv (x y d : W4) (c : Nat) : Nat → Prop
  | 0 => d = x ∧ c = 0
  | 1 => x.a + y.a = d.a + c * 18446744073709551616 ∧ d.b = x.b ∧ d.c = x.c ∧ d.d = x.d
  | 2 => x.a + y.a + 18446744073709551616 * (x.b + y.b) = d.a + 18446744073709551616 * d.b + c * 340282366920938463463374607431768211456 ∧ d.c = x.c ∧ d.d = x.d
  | 3 => x.a + y.a + 18446744073709551616 * (x.b + y.b) + 340282366920938463463374607431768211456 * (x.c + y.c) = d.a + 18446744073709551616 * d.b + 340282366920938463463374607431768211456 * d.c + c * 6277101735386680763835789423207666416102355444464034512896 ∧ d.d = x.d
  | _ => x.val + y.val = d.val + c * 115792089237316195423570985008687907853269984665640564039457584007913129639936
theorem AddInv.step0 {x y d : W4} {c : Nat} (h : AddInv x y d c 0) : AddInv x y { d with a := (d.a + y.a + c) % 18446744073709551616 } ((d.a + y.a + c) / 18446744073709551616) 1 := by
  obtain ⟨rfl, rfl⟩ := h
  refine ⟨?_, rfl, rfl, rfl⟩
  show d.a + y.a = (d.a + y.a + 0) % 18446744073709551616 + (d.a + y.a + 0) / 18446744073709551616 * 18446744073709551616
  omega
theorem AddInv.step1 {x y d : W4} {c : Nat} (h : AddInv x y d c 1) : AddInv x y { d with b := (d.b + y.b + c) % 18446744073709551616 } ((d.b + y.b + c) / 18446744073709551616) 2 := by
  obtain ⟨h, h1, h2, h3⟩ := h
  refine ⟨?_, h2, h3⟩
  show _ = d.a + 18446744073709551616 * ((d.b + y.b + c) % 18446744073709551616) + (d.b + y.b + c) / 18446744073709551616 * 340282366920938463463374607431768211456
  rw [h1]
  omega
theorem AddInv.step2 {x y d : W4} {c : Nat} (h : AddInv x y d c 2) : AddInv x y { d with c := (d.c + y.c + c) % 18446744073709551616 } ((d.c + y.c + c) / 18446744073709551616) 3 := by
  obtain ⟨h, h2, h3⟩ := h
  refine ⟨?_, h3⟩
  show _ = d.a + 18446744073709551616 * d.b + 340282366920938463463374607431768211456 * ((d.c + y.c + c) % 18446744073709551616) + (d.c + y.c + c) / 18446744073709551616 * 6277101735386680763835789423207666416102355444464034512896
  rw [h2]
  omega
theorem AddInv.step3 {x y d : W4} {c : Nat} (h : AddInv x y d c 3) : AddInv x y { d with d := (d.d + y.d + c) % 18446744073709551616 } ((d.d + y.d + c) / 18446744073709551616) 4 := by
  obtain ⟨h, h3⟩ := h
  show x.val + y.val = d.a + 18446744073709551616 * d.b + 340282366920938463463374607431768211456 * d.c + 6277101735386680763835789423207666416102355444464034512896 * ((d.d + y.d + c) % 18446744073709551616) + (d.d + y.d + c) / 18446744073709551616 * 115792089237316195423570985008687907853269984665640564039457584007913129639936
  unfold W4.val
  rw [h3]
  omega
def AddPost (x y : W4) (w : World) (e : Ending) (w' : World) : Prop := ∃ (d : W4) (c : Nat), e = .returned (.agg d.cs) ∧ d.ok ∧ c ≤ 1 ∧ x.val + y.val = d.val + c * 115792089237316195423570985008687907853269984665640564039457584007913129639936 ∧ Below w.heap.size w w'
theorem cell4 {w : World} {b : Nat} {d : W4} {T : TypeId} (h : w.heap[b]? = some (.cells d.cs T (0, 0))) : w.cell? ⟨b, 0, none⟩ = some (.int .u64 d.a) ∧ w.cell? ⟨b, 1, none⟩ = some (.int .u64 d.b) ∧ w.cell? ⟨b, 2, none⟩ = some (.int .u64 d.c) ∧ w.cell? ⟨b, 3, none⟩ = some (.int .u64 d.d) := by
  refine ⟨?_, ?_, ?_, ?_⟩ <;> (rw [cell_of_row _ b _ _ _ _ h]; rfl)
/-- The blocks of add and sub: the sum so far, the other number, the answer's place. -/
def Three (w wr : World) (d y z : W4) : Prop := Below w.heap.size w wr ∧ wr.heap[w.heap.size]? = some (.cells d.cs 294 (0, 0)) ∧ wr.heap[w.heap.size + 1]? = some (.cells y.cs 294 (0, 0)) ∧ wr.heap[w.heap.size + 1 + 1]? = some (.cells z.cs 294 (0, 0))
theorem Three.below {w wr w' : World} {d y z : W4} (h : Three w wr d y z) (hb : Below wr.heap.size wr w') : Three w w' d y z := by
  obtain ⟨h0, h1, h2, h3⟩ := h
  have lt : ∀ {b o}, wr.heap[b]? = some o → b < wr.heap.size := fun {b o} h => by
    rcases Nat.lt_or_ge b wr.heap.size with h' | h'
    · exact h'
    · rw [Array.getElem?_eq_none h'] at h; cases h
  exact ⟨h0.trans (hb.mono h0.size), (hb.block _ (lt h1)).trans h1, (hb.block _ (lt h2)).trans h2, (hb.block _ (lt h3)).trans h3⟩
theorem Three.set {w wr : World} {d y z d' : W4} {i : Nat} {v : Value} (h : Three w wr d y z) (hd : d.cs.setIfInBounds i v = d'.cs) : Three w (wr.setCell ⟨w.heap.size, i, none⟩ v) d' y z := by
  obtain ⟨h0, h1, h2, h3⟩ := h
  refine ⟨h0.setCell (p := ⟨w.heap.size, i, none⟩) (Nat.le_refl _) v, ?_, ?_, ?_⟩
  · rw [← hd]; exact heap_setCell_same wr w.heap.size i _ _ v h1
  · exact (Below.heap_setCell _ _ _ _ (by simp)).trans h2
  · exact (Below.heap_setCell _ _ _ _ (by simp; omega)).trans h3
theorem ret4 {wr : World} {b : Nat} {d z : W4} (h : wr.heap[b]? = some (.cells z.cs 294 (0, 0))) :
    (loadVar 294 ⟨b, 0, none⟩).run Tryz.prog ((((wr.setCell ⟨b, 0, none⟩ (.int .u64 d.a)).setCell ⟨b, 1, none⟩ (.int .u64 d.b)).setCell ⟨b, 2, none⟩ (.int .u64 d.c)).setCell ⟨b, 3, none⟩ (.int .u64 d.d)) =
      .ok (.agg d.cs) ((((wr.setCell ⟨b, 0, none⟩ (.int .u64 d.a)).setCell ⟨b, 1, none⟩ (.int .u64 d.b)).setCell ⟨b, 2, none⟩ (.int .u64 d.c)).setCell ⟨b, 3, none⟩ (.int .u64 d.d)) := by
  have hth : wr.there b 0 4 := fun j hj => by
    refine ⟨?_, by simp [World.frozen?, h]⟩
    rw [cell_of_row wr b (0 + j) z.cs _ (0, 0) h]
    obtain rfl | rfl | rfl | rfl : j = 0 ∨ j = 1 ∨ j = 2 ∨ j = 3 := by omega
    all_goals rfl
  have key : ∀ l : List Value, l.length = 4 → (loadVar 294 ⟨b, 0, none⟩).run Tryz.prog (wr.setCells b 0 l) = .ok (.agg l.toArray) (wr.setCells b 0 l) := fun l hl =>
    run_loadVar_mid (P := Tryz.prog) (wr.setCells b 0 l) b 0 294 l _ (World.rangeAt_setCells_same _ _ _ _ (by rw [hl]; exact hth)) Tryz.underlying294 rfl (by rw [hl]; kernel_rfl)
  have h2 := key [.int .u64 d.a, .int .u64 d.b, .int .u64 d.c, .int .u64 d.d] rfl
  simp only [World.setCells, Nat.zero_add, Nat.reduceAdd] at h2
  exact h2
end Go.Proofs.YtbcpmnnlhdgbhaaGreatDoor.Sc
