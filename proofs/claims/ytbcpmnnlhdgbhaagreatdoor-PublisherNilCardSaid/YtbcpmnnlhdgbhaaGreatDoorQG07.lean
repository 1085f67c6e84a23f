/- The texts Q5 Fun1 of this work, merged by wip/merge.py. No conditions. -/
import Derived.Test.YtbcpmnnlhdgbhaaGreatDoorQG06
import Derived.Test.YtbcpmnnlhdgbhaaGreatDoorQG05
import Derived.Test.YtbcpmnnlhdgbhaaGreatDoorQG03
namespace Go.Proofs.YtbcpmnnlhdgbhaaGreatDoor
open Go.RowKit
theorem WQ.fresh (w : World) (t : TypeId) (m : Nat) (cs : Array Value) (h : cs.size = m) : WQ (w.alloc (.cells cs t)) w.heap.size t m [] := ⟨cs, heap_alloc_new w _, h, fun j hj => by simp at hj⟩
/-- The table of constants lies at block 0. -/
def KQ (w : World) (K : List Int) : Prop := 3 < w.heap.size ∧ K.length = 80 ∧ ∀ j, j < 80 → w.cell? ⟨3, j, none⟩ = some (.int .u64 (K.getD j 0))
theorem KQ.bel {w w' : World} {K : List Int} (h : KQ w K) (hb : Below w.heap.size w w') : KQ w' K :=
  ⟨Nat.lt_of_lt_of_le h.1 hb.size, h.2.1, fun j hj => (hb.cell (p := ⟨3, j, none⟩) h.1).trans (h.2.2 j hj)⟩
/-- The eight words of a hash, at the beginning of a block. -/
def STQ (w : World) (g : Nat) (t : TypeId) (cur : Array Value) (R : R8) : Prop := w.heap[g]? = some (.cells cur t (0, 0)) ∧ 8 ≤ cur.size ∧ ∀ (j : Nat) (v : Int), R.l[j]? = some v → cur[j]? = some (Value.int .u64 v)
theorem STQ.bel {w w' : World} {g : Nat} {t : TypeId} {cur : Array Value} {R : R8} (h : STQ w g t cur R) (hb : Below w.heap.size w w') : STQ w' g t cur R := ⟨(hb.block g (lt_heap h.1)).trans h.1, h.2⟩
theorem STQ.cell {w : World} {g : Nat} {t : TypeId} {cur : Array Value} {R : R8} (h : STQ w g t cur R) (j : Nat) (v : Int) (hj : R.l[j]? = some v) : w.cell? ⟨g, j, none⟩ = some (.int .u64 v) := by
  rw [cell_of_row w g j _ _ _ h.1]; exact h.2.2 j v hj
def BlkQ (g : Nat) (t : TypeId) (cur : Array Value) (Y : R8) (w : World) (e : Ending) (w' : World) : Prop := e = .returned (.tuple #[]) ∧ Frm [g] w w' ∧ w'.heap[g]? = some (.cells (over cur (w64s Y.l)) t (0, 0))
theorem addQ_get {R X : R8} {n : Nat} {r x : Int} (h1 : R.l[n]? = some r) (h2 : X.l[n]? = some x) : (addQ R X).l[n]? = some (IntKind.u64.wrap (r + x)) := by
  match n, h1, h2 with
  | 0, h1, h2 => simp only [R8.l, List.getElem?_cons_zero, Option.some.injEq] at h1 h2; subst h1 h2; rfl
  | 1, h1, h2 => simp [R8.l] at h1 h2; subst h1 h2; rfl
  | 2, h1, h2 => simp [R8.l] at h1 h2; subst h1 h2; rfl
  | 3, h1, h2 => simp [R8.l] at h1 h2; subst h1 h2; rfl
  | 4, h1, h2 => simp [R8.l] at h1 h2; subst h1 h2; rfl
  | 5, h1, h2 => simp [R8.l] at h1 h2; subst h1 h2; rfl
  | 6, h1, h2 => simp [R8.l] at h1 h2; subst h1 h2; rfl
  | 7, h1, h2 => simp [R8.l] at h1 h2; subst h1 h2; rfl
  | n + 8, h1, _ => simp [R8.l] at h1
theorem run_index8q (xa xc xd xe xf xg xi xj : Int) (k : Nat) (x : Int) (h : (R8.mk xa xc xd xe xf xg xi xj).l[k]? = some x) (w : World) :
    (Instr.index 296 (.agg #[.int .u64 xa, .int .u64 xc, .int .u64 xd, .int .u64 xe, .int .u64 xf, .int .u64 xg, .int .u64 xi, .int .u64 xj]) (.int .i64 (k : Int))).run Tryz.prog w = .ok (.int .u64 x) w := by
  match k, h with
  | 0, h => simp [R8.l] at h; subst h; change _ = _; kernel_rfl
  | 1, h => simp [R8.l] at h; subst h; change _ = _; kernel_rfl
  | 2, h => simp [R8.l] at h; subst h; change _ = _; kernel_rfl
  | 3, h => simp [R8.l] at h; subst h; change _ = _; kernel_rfl
  | 4, h => simp [R8.l] at h; subst h; change _ = _; kernel_rfl
  | 5, h => simp [R8.l] at h; subst h; change _ = _; kernel_rfl
  | 6, h => simp [R8.l] at h; subst h; change _ = _; kernel_rfl
  | 7, h => simp [R8.l] at h; subst h; change _ = _; kernel_rfl
  | n + 8, h => simp [R8.l] at h
set_option maxRecDepth 100000 in
set_option maxHeartbeats 2000000 in
theorem blockQ_any (A : Option Addr) (ln c : Nat) (g : Nat) (t : TypeId) (cur : Array Value) (R : R8) (K : List Int) (l : List UInt8) (w : World) (hst : STQ w g t cur R) (hkt : KQ w K) (hr : Reads w w.heap.size 1 A ln (bvs l)) (hln : 128 ≤ ln) (hc : ln ≤ c) :
    Calls Tryz.prog 216 #[.pointer (some ⟨g, 0, none⟩), .slice A ln c] w (BlkQ g t cur (blockQ K R l) w) := by
  have hcI : (128 : Int) ≤ (c : Int) := by omega
  have HR := Lib.hid hr
  have HC := Lib.hid hc
  have HLN := Lib.hid hln
  have HST := Lib.hid hst
  have HKT := Lib.hid hkt
  clear hr hst hkt
  obtain ⟨zs, hzs⟩ : ∃ zs : Array Value, zs = Array.replicate 80 (.int .u64 0) := ⟨_, rfl⟩
  have hz : ∀ w, (zeroValue 363).run Tryz.prog w = .ok (.agg zs) w := fun w => by rw [hzs]; kernel_rfl
  have hzz : Hid (zs.size = 80) := by show _ = _; rw [hzs]; rfl
  clear hzs
  go_enter Tryz.func216, Tryz.ntmps216
  go_wp2
  obtain ⟨w1, hw1⟩ : ∃ w1, w1 = w.alloc (.cells zs 363) := ⟨_, rfl⟩
  obtain ⟨gw, hgw⟩ : ∃ gw, gw = w.heap.size := ⟨_, rfl⟩
  have B1 : Hid (Below w.heap.size w w1) := by show Below _ _ _; rw [hw1]; exact (Below.refl _ w).alloc (Nat.le_refl _) _
  have W1 : Hid (WQ w1 gw 363 80 []) := by show WQ _ _ _ _ _; rw [hw1, hgw]; exact WQ.fresh _ _ _ _ hzz.out
  rw [← hw1, ← hgw]
  have GE : Hid (w.heap.size ≤ gw) := by show _ ≤ _; rw [hgw]; exact Nat.le_refl _
  clear hw1 hgw hz hzz
  obtain ⟨bb, off, hA, hbb, _⟩ := HR.out.bytes (by omega)
  subst hA
  go_loopw [26] (fun i wr => ∃ k : Nat, k ≤ 16 ∧ i = .int .i64 (k : Int) ∧ Hid (Below w.heap.size w wr ∧ WQ wr gw 363 80 (schedQ l k))) (fun i _ => 16 - (intOf i).toNat)
  case atStart => exact ⟨0, Nat.zero_le _, rfl, B1.out, W1.out⟩
  case round =>
    obtain ⟨k, hk, rfl, hO⟩ := hrel
    by_cases hlt : k < 16
    · have hlt' : (k : Int) < 16 := by omega
      have hk0 : (0 : Int) ≤ (k : Int) := by omega
      obtain ⟨v0, cc⟩ := hO.out.2.any k (by omega)
      have hfz := hO.out.2.unfrozen
      have HO1 := Lib.hid hO.out.1
      have HO2 := Lib.hid hO.out.2
      have HK := Lib.hid hlt
      clear hO
      have SN : Hid (schedQ l (k + 1) = schedQ l k ++ [wordI ((l.drop (8 * k)).take 8)]) := by show _ = _; rw [schedQ, if_pos hlt]
      go_wp2_with (go_at_call 156; go_must (refine (word_any _ 8 _ ((l.drop (8 * k)).take 8) wr w.heap.size (reads_mid HR.out HO1.out (8 * k) 8 (by have := HK.out; have := HLN.out; omega)) (by omega)).mono ?_; rintro e w2 ⟨rfl, rfl⟩))
      go_roundw
      case rel => exact ⟨k + 1, HK.out, by go_num, below_setCell HO1.out GE.out _ _, by rw [SN.out]; exact HO2.out.put k (schedQ_len l k).symm (by have := HK.out; omega) _⟩
      case measure => simp [intOf]; omega
    · have hk16 : k = 16 := by omega
      have hd : decide ((k : Int) < 16) = false := by simp; omega
      have HO : Hid (Below w.heap.size w wr ∧ WQ wr gw 363 80 (schedQ l 16)) := by show _ ∧ _; rw [← hk16]; exact hO.out
      clear hO hlt hk hk16
      go_wp2
      go_loopw [6] (fun i wr => ∃ j : Nat, j ≤ 64 ∧ i = .int .i64 ((j : Int) + 16) ∧ Hid (Below w.heap.size w wr ∧ WQ wr gw 363 80 (schedQ l (j + 16)))) (fun i _ => 80 - (intOf i).toNat)
      case atStart => exact ⟨0, Nat.zero_le _, by go_num, HO.out⟩
      clear HO
      case round =>
        obtain ⟨j, hj, rfl, hO⟩ := hrel
        by_cases hlt : j < 64
        · have hlt' : (j : Int) + 16 < 80 := by omega
          have hj0 : (0 : Int) ≤ (j : Int) := by omega
          obtain ⟨L, hL⟩ : ∃ L, L = schedQ l (j + 16) := ⟨_, rfl⟩
          have hLl : L.length = j + 16 := by rw [hL, schedQ_len]
          rw [← hL] at hO
          have HO1 := Lib.hid hO.out.1
          have HO2 := Lib.hid hO.out.2
          have HLL := Lib.hid hLl
          have HL := Lib.hid hL
          have HJ := Lib.hid hlt
          obtain ⟨v0, cc⟩ := hO.out.2.any (j + 16) (by omega)
          have hfz := hO.out.2.unfrozen
          obtain ⟨x2, hx2⟩ : ∃ x, x = L.getD (j + 14) 0 := ⟨_, rfl⟩
          obtain ⟨x15, hx15⟩ : ∃ x, x = L.getD (j + 1) 0 := ⟨_, rfl⟩
          obtain ⟨x7, hx7⟩ : ∃ x, x = L.getD (j + 9) 0 := ⟨_, rfl⟩
          obtain ⟨x16, hx16⟩ : ∃ x, x = L.getD j 0 := ⟨_, rfl⟩
          have c2 := hO.out.2.cell (j + 14) (by omega)
          have c15 := hO.out.2.cell (j + 1) (by omega)
          have c7 := hO.out.2.cell (j + 9) (by omega)
          have c16 := hO.out.2.cell j (by omega)
          rw [← hx2] at c2
          rw [← hx15] at c15
          rw [← hx7] at c7
          rw [← hx16] at c16
          have b2 : (0 : Int) ≤ (j : Int) + 14 := by omega
          have SN : Hid (schedQ l (j + 17) = L ++ [IntKind.u64.wrap (IntKind.u64.wrap (IntKind.u64.wrap (sigQ1 x2 + x7) + sigQ0 x15) + x16)]) := by
            show _ = _
            rw [schedQ, if_neg (by omega), ← hL, hx2, hx15, hx7, hx16, show j + 16 - 2 = j + 14 from by omega, show j + 16 - 15 = j + 1 from by omega, show j + 16 - 7 = j + 9 from by omega, show j + 16 - 16 = j from by omega]
          clear hL hLl hO hx2 hx15 hx7 hx16
          have GL : Hid (gw < wr.heap.size) := by obtain ⟨_, h_, _⟩ := HO2.out; exact lt_heap h_
          go_wp2
          go_quiet (fail)
          obtain ⟨w5, hw5⟩ : ∃ w5, w5 = wr.drewN nq := ⟨_, rfl⟩
          have HB5 : Hid (Below wr.heap.size wr w5) := by show Below _ _ _; rw [hw5]; exact ⟨rfl, rfl, rfl, Nat.le_refl _, fun _ _ => rfl⟩
          rw [← hw5]
          clear hw5
          have T0 : Hid True := trivial
          go_wp2_with (first
            | (go_at_call 256; have hx_ := T0; go_must (refine (rotq19 _ _).mono ?_; rintro e w6 ⟨rfl, h6⟩; have h6 := h6.symm; subst h6; have T1 := hx_; clear T0 hx_))
            | (go_at_call 256; have hx_ := T1; go_must (refine (rotq61 _ _).mono ?_; rintro e w6 ⟨rfl, h6⟩; have h6 := h6.symm; subst h6; have T2 := hx_; clear T1 hx_))
            | (go_at_call 256; have hx_ := T2; go_must (refine (rotq1 _ _).mono ?_; rintro e w6 ⟨rfl, h6⟩; have h6 := h6.symm; subst h6; have T3 := hx_; clear T2 hx_))
            | (go_at_call 256; have hx_ := T3; go_must (refine (rotq8 _ _).mono ?_; rintro e w6 ⟨rfl, h6⟩; have h6 := h6.symm; subst h6; have T4 := hx_; clear T3 hx_)))
          obtain ⟨s1, hs1⟩ : ∃ s1, sigQ1 x2 = s1 := ⟨_, rfl⟩
          obtain ⟨s0, hs0⟩ : ∃ s0, sigQ0 x15 = s0 := ⟨_, rfl⟩
          have HS1 := Lib.hid hs1
          have HS0 := Lib.hid hs0
          unfold sigQ1 at hs1
          unfold sigQ0 at hs0
          rw [hs1, hs0]
          clear hs1 hs0 HL hlt hj
          have d7 := (HB5.out.cell (p := ⟨gw, j + 9, none⟩) GL.out).trans c7
          have d16 := (HB5.out.cell (p := ⟨gw, j, none⟩) GL.out).trans c16
          clear c7 c16 c2 c15 cc hfz
          have WW : Hid (WQ w5 gw 363 80 L) := HO2.out.bel HB5.out
          have BW := Lib.hid (HO1.out.trans (HB5.out.mono HO1.out.size))
          obtain ⟨v9, cc9⟩ := WW.out.any (j + 16) (by have := HJ.out; omega)
          have hfz9 := WW.out.unfrozen
          refine wp_quiet_tail 15 (by kernel_rfl) (by kernel_rfl) ?_
          simp only [List.take_succ_cons, List.take_zero, List.drop_succ_cons, List.drop_zero]
          repeat (go_big_quiet_step (fail))
          refine wpQuiet_nil ?_
          go_wp2
          go_roundw
          case rel => exact ⟨j + 1, HJ.out, by go_num, below_drew (below_setCell BW.out GE.out _ _), by
            rw [show j + 1 + 16 = j + 17 from by omega, SN.out, HS1.out, HS0.out]
            exact WW.out.put (j + 16) HLL.out.symm (by have := HJ.out; omega) _⟩
          case measure => simp [intOf]; omega
        · have hj48 : j = 64 := by omega
          have hd : decide ((j : Int) + 16 < 80) = false := by simp; omega
          have HO1 := Lib.hid hO.out.1
          have HO2 : Hid (WQ wr gw 363 80 (schedQ l 80)) := by show WQ _ _ _ _ _; have := hO.out.2; rw [hj48] at this; exact this
          clear hO hlt hj hj48
          go_wp2
          have sv := HST.out.bel (HO1.out.mono (Nat.le_refl _))
          have f0 := sv.cell 0 _ rfl
          have f1 := sv.cell 1 _ rfl
          have f2 := sv.cell 2 _ rfl
          have f3 := sv.cell 3 _ rfl
          have f4 := sv.cell 4 _ rfl
          have f5 := sv.cell 5 _ rfl
          have f6 := sv.cell 6 _ rfl
          have f7 := sv.cell 7 _ rfl
          clear sv
          go_quiet (fail)
          obtain ⟨w5, hw5⟩ : ∃ w5, w5 = wr.drewN nq := ⟨_, rfl⟩
          have HB5 : Hid (Below w.heap.size w w5) := by show Below _ _ _; rw [hw5]; exact HO1.out.trans ⟨rfl, rfl, rfl, Nat.le_refl _, fun _ _ => rfl⟩
          obtain ⟨W, hW⟩ : ∃ W, W = schedQ l 80 := ⟨_, rfl⟩
          have HW5 : Hid (WQ w5 gw 363 80 W) := by show WQ _ _ _ _ _; rw [hw5, hW]; exact HO2.out
          have HWl : Hid (W.length = 80) := by show _ = _; rw [hW, schedQ_len]
          rw [← hw5]
          clear hw5 HO1 HO2 f0 f1 f2 f3 f4 f5 f6 f7
          go_wp2
          go_loopw [11, 12, 13, 14, 15, 16, 17, 18, 115] (fun a c d e f g i j t wr => ∃ (k : Nat) (X : R8), k ≤ 80 ∧ t = .int .i64 (k : Int) ∧ a = .int .u64 X.a ∧ c = .int .u64 X.c ∧ d = .int .u64 X.d ∧ e = .int .u64 X.e ∧ f = .int .u64 X.f ∧ g = .int .u64 X.g ∧ i = .int .u64 X.i ∧ j = .int .u64 X.j ∧ Hid (X = rndsQ K W R k ∧ Below w.heap.size w wr ∧ WQ wr gw 363 80 W)) (fun _ _ _ _ _ _ _ _ t _ => 80 - (intOf t).toNat)
          case atStart => exact ⟨0, R, Nat.zero_le _, rfl, rfl, rfl, rfl, rfl, rfl, rfl, rfl, rfl, rfl, HB5.out, HW5.out⟩
          case round =>
            obtain ⟨k, X, hk, rfl, rfl, rfl, rfl, rfl, rfl, rfl, rfl, rfl, hO⟩ := hrel
            obtain ⟨xa, xc, xd, xe, xf, xg, xi, xj⟩ := X
            have HX := Lib.hid hO.out.1
            have HO1 := Lib.hid hO.out.2.1
            have HO2 := Lib.hid hO.out.2.2
            clear hO
            by_cases hlt : k < 80
            · have hlt' : (k : Int) < 80 := by omega
              have hk0 : (0 : Int) ≤ (k : Int) := by omega
              have HK := Lib.hid hlt
              obtain ⟨kv, hkv⟩ : ∃ x, x = K.getD k 0 := ⟨_, rfl⟩
              obtain ⟨wv, hwv⟩ : ∃ x, x = W.getD k 0 := ⟨_, rfl⟩
              have ck := (HO1.out.cell (p := ⟨3, k, none⟩) HKT.out.1).trans (HKT.out.2.2 k hlt)
              have cw := HO2.out.cell k (by rw [HWl.out]; exact hlt)
              rw [← hkv] at ck
              rw [← hwv] at cw
              have HKV := Lib.hid hkv
              have HWV := Lib.hid hwv
              clear hkv hwv hlt
              have T0 : Hid True := trivial
              go_wp2_with (first
                | (go_at_call 256; have hx_ := T0; go_must (refine (rotq14 _ _).mono ?_; rintro e w6 ⟨rfl, h6⟩; have h6 := h6.symm; subst h6; have T1 := hx_; clear T0 hx_))
                | (go_at_call 256; have hx_ := T1; go_must (refine (rotq18 _ _).mono ?_; rintro e w6 ⟨rfl, h6⟩; have h6 := h6.symm; subst h6; have T2 := hx_; clear T1 hx_))
                | (go_at_call 256; have hx_ := T2; go_must (refine (rotq41 _ _).mono ?_; rintro e w6 ⟨rfl, h6⟩; have h6 := h6.symm; subst h6; have T3 := hx_; clear T2 hx_)))
              obtain ⟨s1, hs1⟩ : ∃ s1, bigQ1 xf = s1 := ⟨_, rfl⟩
              have HS1 := Lib.hid hs1
              unfold bigQ1 at hs1
              rw [hs1]
              clear hs1
              go_quiet (fail)
              obtain ⟨t1, ht1⟩ : ∃ t1, t1Q xj s1 xf xg xi kv wv = t1 := ⟨_, rfl⟩
              have HT1 := Lib.hid ht1
              unfold t1Q at ht1
              rw [ht1]
              clear ht1
              obtain ⟨w7, hw7⟩ : ∃ w7, w7 = wr.drewN nq := ⟨_, rfl⟩
              have HB7 : Hid (Below w.heap.size w w7) := by show Below _ _ _; rw [hw7]; exact HO1.out.trans ⟨rfl, rfl, rfl, Nat.le_refl _, fun _ _ => rfl⟩
              have HW7 : Hid (WQ w7 gw 363 80 W) := by show WQ _ _ _ _ _; rw [hw7]; exact HO2.out
              rw [← hw7]
              clear hw7 ck cw HO1 HO2
              go_wp2_with (first
                | (go_at_call 256; have hx_ := T3; go_must (refine (rotq28 _ _).mono ?_; rintro e w6 ⟨rfl, h6⟩; have h6 := h6.symm; subst h6; have T4 := hx_; clear T3 hx_))
                | (go_at_call 256; have hx_ := T4; go_must (refine (rotq34 _ _).mono ?_; rintro e w6 ⟨rfl, h6⟩; have h6 := h6.symm; subst h6; have T5 := hx_; clear T4 hx_))
                | (go_at_call 256; have hx_ := T5; go_must (refine (rotq39 _ _).mono ?_; rintro e w6 ⟨rfl, h6⟩; have h6 := h6.symm; subst h6; have T6 := hx_; clear T5 hx_)))
              go_roundw
              case rel =>
                have e1 := HT1.out
                have e2 := HS1.out
                subst e2
                subst e1
                exact ⟨k + 1, rndQ ⟨xa, xc, xd, xe, xf, xg, xi, xj⟩ kv wv, HK.out, by go_num, rfl, rfl, rfl, rfl, rfl, rfl, rfl, rfl, by rw [rndsQ, ← HX.out, HKV.out, HWV.out], HB7.out, HW7.out⟩
              case measure => simp [intOf]; omega
            · have hk64 : k = 80 := by omega
              have hd' : decide ((k : Int) < 80) = false := by simp; omega
              have HX' : Hid (R8.mk xa xc xd xe xf xg xi xj = rndsQ K (schedQ l 80) R 80) := by show _ = _; rw [HX.out, hk64, hW]
              clear hlt hk hk64 HX HO2 HW5 HWl hW
              go_wp2
              obtain ⟨X, hX⟩ : ∃ X, X = R8.mk xa xc xd xe xf xg xi xj := ⟨_, rfl⟩
              have HXX := Lib.hid hX
              clear hX
              have W8 : Hid (wr.heap[g]? = some (.cells (over cur (w64s ((addQ R X).l.take 0))) t (0, 0))) := by show _ = _; rw [List.take_zero, show w64s [] = [] from rfl, over_nil]; exact (HST.out.bel HO1.out).1
              go_loopw [189] (fun i wr => ∃ n : Nat, n ≤ 8 ∧ i = .int .i64 (n : Int) ∧ Hid (Frm [g] w wr ∧ wr.heap[g]? = some (.cells (over cur (w64s ((addQ R X).l.take n))) t (0, 0)))) (fun i _ => 8 - (intOf i).toNat)
              case atStart => exact ⟨0, Nat.zero_le _, rfl, frm_below HO1.out, W8.out⟩
              clear W8 HO1
              case round =>
                obtain ⟨n, hn, rfl, hO⟩ := hrel
                by_cases hlt : n < 8
                · have hlt' : (n : Int) < 8 := by omega
                  have hn0 : (0 : Int) ≤ (n : Int) := by omega
                  obtain ⟨r, hr⟩ : ∃ r, R.l[n]? = some r := ⟨R.l[n]'(by rw [l_len]; exact hlt), List.getElem?_eq_getElem _⟩
                  obtain ⟨x, hx⟩ : ∃ x, X.l[n]? = some x := ⟨X.l[n]'(by rw [l_len]; exact hlt), List.getElem?_eq_getElem _⟩
                  have hidx := run_index8q xa xc xd xe xf xg xi xj n x (by rw [← HXX.out]; exact hx)
                  have hlen : (w64s ((addQ R X).l.take n)).length = n := by simp only [w64s, List.length_map, List.length_take, l_len]; omega
                  have cc : wr.cell? ⟨g, n, none⟩ = some (.int .u64 r) := by
                    rw [cell_of_row _ g n _ _ _ hO.out.2, over_get _ _ _ (by omega)]
                    exact HST.out.2.2 n r hr
                  have hfz := frozen_row hO.out.2
                  have SN : Hid (w64s ((addQ R X).l.take (n + 1)) = w64s ((addQ R X).l.take n) ++ [.int .u64 (IntKind.u64.wrap (r + x))]) := by
                    show _ = _
                    have h1 := addQ_get hr hx
                    rw [List.take_add_one, h1]
                    simp [w64s]
                  have HO := Lib.hid hO.out
                  have HL := Lib.hid hlen
                  have HN := Lib.hid hlt
                  clear hO hr hx hlen hlt hn
                  go_wp2
                  refine wp_quiet_tail 9 (by kernel_rfl) (by kernel_rfl) ?_
                  simp only [List.take_succ_cons, List.take_zero, List.drop_succ_cons, List.drop_zero]
                  repeat (go_big_quiet_step (fail))
                  refine wpQuiet_nil ?_
                  go_wp2
                  go_roundw
                  case rel =>
                    refine ⟨n + 1, HN.out, by go_num, frm_drew (HO.out.1.trans (Frm.setCell wr g n (.int .u64 (IntKind.u64.wrap (r + x))))), ?_⟩
                    have h2 := over_set cur (w64s ((addQ R X).l.take n)) (.int .u64 (IntKind.u64.wrap (r + x))) (by rw [HL.out]; exact Nat.lt_of_lt_of_le HN.out HST.out.2.1)
                    rw [SN.out, ← h2, HL.out]
                    exact heap_setCell_same wr g n _ t _ HO.out.2
                  case measure => simp [intOf]; omega
                · have hn8 : n = 8 := by omega
                  have hd9 : decide ((n : Int) < 8) = false := by simp; omega
                  have HO : Hid (Frm [g] w wr ∧ wr.heap[g]? = some (.cells (over cur (w64s (blockQ K R l).l)) t (0, 0))) := by
                    show _ ∧ _
                    refine ⟨hO.out.1, ?_⟩
                    have h3 := hO.out.2
                    rw [hn8, List.take_of_length_le (by rw [l_len]; omega), HXX.out, HX'.out] at h3
                    exact h3
                  clear hO hlt hn hn8
                  go_wp2
                  go_end0
                  exact ⟨rfl, HO.out.1, HO.out.2⟩
end Go.Proofs.YtbcpmnnlhdgbhaaGreatDoor

namespace Go.Proofs.YtbcpmnnlhdgbhaaGreatDoor
section
variable {P : Program} {ops : Array Oper} {Q' : Exit → Act → World → Prop}
/-- What comes up, in whatever order, ahead of the n-th operation; the others wait for all of those ahead. -/
theorem wpAny_head {n : Nat} (J : Array Bool → Act → World → Prop)
    (hdown : ∀ k o, ops[k]? = some o → ∀ e ∈ o.after, Region.binds .any e = true → e.on < k)
    (htail : ∀ k o, n ≤ k → ops[k]? = some o → ∀ j, j < n → ∃ e ∈ o.after, Region.binds .any e = true ∧ (e.on = j ∨ reachB .any ops ops.size j e.on = true))
    (hn : n ≤ ops.size)
    (hstep : ∀ L a w, L.size = ops.size → J L a w → ∀ j, j < n → j ∈ Region.ready .any ops L → okStep P ops j (fun a' w' => J (L.setIfInBounds j true) a' w') a w)
    (hend : ∀ L a w, L.size = ops.size → (∀ k, k < n → L.getD k true = true) → (∀ k, n ≤ k → k < ops.size → L.getD k true = false) → J L a w → wpAny P .any ops Q' (ops.size - n) L a w) :
    ∀ (m : Nat) (L : Array Bool) (a : Act) (w : World), DC .any ops L → L.size = ops.size → (∀ k, n ≤ k → k < ops.size → L.getD k true = false) → ((List.range n).filter fun i => !L.getD i true).length = m → J L a w →
      wpAny P .any ops Q' (m + (ops.size - n)) L a w := by
  intro m
  induction m with
  | zero =>
    intro L a w _ hs ht hm hJ
    rw [Nat.zero_add]
    refine hend L a w hs (fun k hk => ?_) ht hJ
    cases hL : L.getD k true with
    | true => rfl
    | false =>
      have : k ∈ (List.range n).filter fun i => !L.getD i true := List.mem_filter.2 ⟨List.mem_range.2 hk, by rw [hL]; rfl⟩
      rw [List.eq_nil_of_length_eq_zero hm] at this
      cases this
  | succ m ih =>
    intro L a w hDC hs ht hm hJ
    obtain ⟨i0, hi0⟩ := List.exists_mem_of_length_pos (l := (List.range n).filter fun i => !L.getD i true) (by omega)
    rw [List.mem_filter, List.mem_range] at hi0
    have hex : ∀ (i : Nat), i < n → L.getD i true = false → ∃ j, j ∈ Region.ready .any ops L := by
      intro i
      induction i using Nat.strongRecOn with
      | _ i ihi =>
        intro hi hL
        by_cases hall : ∀ e ∈ (ops[i]'(by omega)).after, Region.binds .any e = true → L.getD e.on false = true
        · exact ⟨i, mem_ready.2 ⟨hL, _, Array.getElem?_eq_getElem (by omega), hall⟩⟩
        · have h1 : ∃ e ∈ (ops[i]'(by omega)).after, Region.binds .any e = true ∧ ¬ L.getD e.on false = true := by
            apply Classical.byContradiction
            intro hne
            exact hall fun e he hb => Classical.byContradiction fun h2 => hne ⟨e, he, hb, h2⟩
          obtain ⟨e, he, hb, h2⟩ := h1
          have hlt := hdown i _ (Array.getElem?_eq_getElem (by omega)) e he hb
          refine ihi e.on hlt (by omega) ?_
          have hsz : e.on < L.size := by rw [hs]; omega
          have h4 : L.getD e.on false = false := by simpa using h2
          rw [Array.getD_eq_getD_getElem?] at h4 ⊢
          simpa [hsz] using h4
    obtain ⟨j0, hj0⟩ := hex i0 hi0.1 (by simpa using hi0.2)
    rw [show m + 1 + (ops.size - n) = (m + (ops.size - n)) + 1 by omega]
    refine ⟨fun h => (by rw [h] at hj0; cases hj0), fun j hj => ?_⟩
    obtain ⟨hun, oj, hoj, hall⟩ := mem_ready.1 hj
    have hjn : j < n := by
      rcases Nat.lt_or_ge j n with h | h
      · exact h
      · obtain ⟨e, he, hb, hon⟩ := htail j oj h hoj i0 hi0.1
        have h1 : L.getD i0 false = true := by
          rcases hon with rfl | hon
          · exact hall e he hb
          · exact reach_listed hDC _ _ hon (hall e he hb)
        have h2 : L.getD i0 true = false := by simpa using hi0.2
        have hsz : i0 < L.size := by rw [hs]; omega
        rw [Array.getD_eq_getD_getElem?] at h1 h2
        simp [hsz] at h1 h2
        rw [h1] at h2; cases h2
    have hsz : j < L.size := by rw [hs]; omega
    refine wpOp_of_okStep (okStep_mono (fun a' w' hJ' => ?_) (hstep L a w hs hJ j hjn hj))
    refine ih _ _ _ (hDC.step hj) (by simpa using hs) (fun k hk hks => ?_) ?_ hJ'
    · rw [getD_set_ne true (by omega)]; exact ht k hk hks
    · have hset : ∀ i, (L.setIfInBounds j true).getD i true = (i == j || L.getD i true) := fun i => by
        by_cases hij : j = i
        · subst hij; simp [Array.getD_eq_getD_getElem?, hsz]
        · rw [getD_set_ne true hij]
          have : (i == j) = false := by simpa using fun e => hij e.symm
          rw [this, Bool.false_or]
      have hcount : ∀ (T : List Nat), T.Nodup → j ∈ T → (T.filter fun i => !L.getD i true).length = (T.filter fun i => !(L.setIfInBounds j true).getD i true).length + 1 := by
        intro T
        induction T with
        | nil => intro _ h; cases h
        | cons i T ihT =>
          intro hnd hjT
          rw [List.nodup_cons] at hnd
          by_cases hij : i = j
          · subst hij
            have h1 : (T.filter fun x => !(L.setIfInBounds i true).getD x true) = T.filter fun x => !L.getD x true := by
              apply List.filter_congr
              intro x hx
              rw [hset x]
              have : (x == i) = false := by simp; exact fun e => hnd.1 (e ▸ hx)
              rw [this, Bool.false_or]
            rw [List.filter_cons_of_pos (by simp [hun]), List.filter_cons_of_neg (by rw [hset]; simp), h1, List.length_cons]
          · have hjT' : j ∈ T := by
              rcases List.mem_cons.1 hjT with e | h
              · exact absurd e.symm hij
              · exact h
            have h2 := ihT hnd.2 hjT'
            have hi : (L.setIfInBounds j true).getD i true = L.getD i true := by
              rw [hset i]
              have : (i == j) = false := by simpa using hij
              rw [this, Bool.false_or]
            cases hdi : L.getD i true with
            | true => rw [List.filter_cons_of_neg (by rw [hdi]; simp), List.filter_cons_of_neg (by rw [hi, hdi]; simp)]; exact h2
            | false => rw [List.filter_cons_of_pos (by rw [hdi]; rfl), List.filter_cons_of_pos (by rw [hi, hdi]; rfl), List.length_cons, List.length_cons, h2]
      have h3 := hcount (List.range n) List.nodup_range (List.mem_range.2 hjn)
      omega
/-- Values put one behind the other. -/
def putAll : List Oper → List Value → Act → Act
  | o :: r, v :: vs, a => putAll r vs (a.put o.dst v)
  | _, _, a => a
theorem put_tmps_ne {a : Act} {d : Option Tmp} {v : Value} {s : Nat} (h : d ≠ some s) : (a.put d v).tmps[s]? = a.tmps[s]? := by
  cases d with
  | none => rfl
  | some d => simp only [Act.put]; rw [Array.getElem?_setIfInBounds_ne (fun e => h (by rw [e]))]
theorem put_size (a : Act) (d : Option Tmp) (v : Value) : (a.put d v).tmps.size = a.tmps.size := by
  cases d <;> simp [Act.put]
theorem put_defers (a : Act) (d : Option Tmp) (v : Value) : (a.put d v).defers = a.defers := by
  cases d <;> simp [Act.put]
theorem putAll_size : ∀ (l : List Oper) (vs : List Value) (a : Act), (putAll l vs a).tmps.size = a.tmps.size
  | [], _, _ => by cases ‹List Value› <;> rfl
  | _ :: _, [], _ => rfl
  | o :: r, v :: vs, a => by rw [putAll, putAll_size r vs, put_size]
theorem putAll_defers : ∀ (l : List Oper) (vs : List Value) (a : Act), (putAll l vs a).defers = a.defers
  | [], _, _ => by cases ‹List Value› <;> rfl
  | _ :: _, [], _ => rfl
  | o :: r, v :: vs, a => by rw [putAll, putAll_defers r vs, put_defers]
theorem putAll_other : ∀ (l : List Oper) (vs : List Value) (a : Act) (s : Nat), (∀ o ∈ l, o.dst ≠ some s) → (putAll l vs a).tmps[s]? = a.tmps[s]?
  | [], _, _, _, _ => by cases ‹List Value› <;> rfl
  | _ :: _, [], _, _, _ => rfl
  | o :: r, v :: vs, a, s, h => by
    rw [putAll, putAll_other r vs _ s (fun o' ho => h o' (List.mem_cons_of_mem _ ho)), put_tmps_ne (h o List.mem_cons_self)]
theorem putAll_at : ∀ (l : List Oper) (vs : List Value) (a : Act) (s j : Nat) (o : Oper) (v : Value), (l.map (·.dst)).Nodup → l[j]? = some o → o.dst = some s → vs[j]? = some v → s < a.tmps.size → (putAll l vs a).tmps[s]? = some v
  | [], _, _, _, _, _, _, _, h, _, _, _ => by simp at h
  | _ :: _, [], _, _, _, _, _, _, _, _, h, _ => by simp at h
  | o' :: r, v' :: vs, a, s, 0, o, v, hnd, ho, hd, hv, hs => by
    simp only [List.getElem?_cons_zero, Option.some.injEq] at ho hv
    subst ho hv
    rw [List.map_cons, List.nodup_cons] at hnd
    rw [putAll, putAll_other r vs _ s (fun o2 h2 e => hnd.1 (List.mem_map.2 ⟨o2, h2, e.trans hd.symm⟩)), hd]
    simp [Act.put, hs]
  | o' :: r, v' :: vs, a, s, j + 1, o, v, hnd, ho, hd, hv, hs => by
    rw [List.map_cons, List.nodup_cons] at hnd
    simp only [List.getElem?_cons_succ] at ho hv
    rw [putAll]
    exact putAll_at r vs _ s j o v hnd.2 ho hd hv (by rw [put_size]; exact hs)
end
/-- One operation after the other, each with one value in every world that w0 has grown to, making new memory alone. -/
def funWalk (P : Program) (w0 : World) (K : Act → Prop) : List Oper → Act → Prop
  | [], a => K a
  | o :: r, a => ∃ v, (∀ w, RowKit.Below w0.heap.size w0 w → okOp P o a w (fun u w' => u = v ∧ RowKit.Below w.heap.size w w')) ∧ funWalk P w0 K r (a.put o.dst v)
theorem funWalk_vals {P : Program} {w0 : World} {K : Act → Prop} : ∀ (l : List Oper) (a : Act), funWalk P w0 K l a → ∃ vs : List Value, vs.length = l.length ∧ K (putAll l vs a) ∧
    ∀ k o v, l[k]? = some o → vs[k]? = some v → ∀ w, RowKit.Below w0.heap.size w0 w → okOp P o (putAll (l.take k) (vs.take k) a) w (fun u w' => u = v ∧ RowKit.Below w.heap.size w w')
  | [], a, h => ⟨[], rfl, h, fun k o v ho => by simp at ho⟩
  | o :: r, a, ⟨v, h1, h2⟩ => by
    obtain ⟨vs, hl, hK, hv⟩ := funWalk_vals r _ h2
    refine ⟨v :: vs, by simp [hl], hK, fun k o' v' ho hv' => ?_⟩
    cases k with
    | zero =>
      simp only [List.getElem?_cons_zero, Option.some.injEq] at ho hv'
      subst ho hv'
      exact h1
    | succ k =>
      simp only [List.getElem?_cons_succ] at ho hv'
      exact hv k o' v' ho hv'
/-- New blocks, each its own. -/
def freshQ (w0 w : World) (K : Act → Prop) : List (Nat × Array Value × TypeId) → List Nat → Act → Prop
  | [], _, a => K a
  | x :: r, used, a => ∀ b, w0.heap.size ≤ b → b ∉ used → w.heap[b]? = some (.cells x.2.1 x.2.2 (0, 0)) → freshQ w0 w K r (b :: used) (a.put (some x.1) (.pointer (some ⟨b, 0, none⟩)))
def putNew : List (Nat × Array Value × TypeId) → List Nat → Act → Act
  | x :: r, b :: bs, a => putNew r bs (a.put (some x.1) (.pointer (some ⟨b, 0, none⟩)))
  | _, _, a => a
theorem freshQ_use {w0 w : World} {K : Act → Prop} : ∀ (al : List (Nat × Array Value × TypeId)) (bs used : List Nat) (a : Act), freshQ w0 w K al used a → bs.length = al.length → bs.Nodup → (∀ b ∈ bs, b ∉ used) →
    (∀ (i : Nat) (x : Nat × Array Value × TypeId) (b : Nat), al[i]? = some x → bs[i]? = some b → w0.heap.size ≤ b ∧ w.heap[b]? = some (.cells x.2.1 x.2.2 (0, 0))) → K (putNew al bs a)
  | [], [], _, _, h, _, _, _, _ => h
  | [], _ :: _, _, _, _, h, _, _, _ => by simp at h
  | _ :: _, [], _, _, _, h, _, _, _ => by simp at h
  | x :: r, b :: bs, used, a, h, hl, hnd, hu, hf => by
    rw [List.nodup_cons] at hnd
    have h0 := hf 0 x b rfl rfl
    rw [putNew]
    refine freshQ_use r bs (b :: used) _ (h b h0.1 (hu b List.mem_cons_self) h0.2) (by simpa using hl) hnd.2 (fun b' hb' hm => ?_) (fun i y c hy hc => hf (i + 1) y c hy hc)
    rcases List.mem_cons.1 hm with e | hm
    · exact hnd.1 (e ▸ hb')
    · exact hu b' (List.mem_cons_of_mem _ hb') hm
end Go.Proofs.YtbcpmnnlhdgbhaaGreatDoor
