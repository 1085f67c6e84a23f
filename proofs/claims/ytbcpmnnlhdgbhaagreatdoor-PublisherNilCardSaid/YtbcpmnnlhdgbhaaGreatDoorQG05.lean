/- The texts Z5 Z6 Z7 Z8 of this work, merged by wip/merge.py. No conditions. -/
import Derived.Test.YtbcpmnnlhdgbhaaGreatDoorQG04
namespace Go.Proofs.YtbcpmnnlhdgbhaaGreatDoor
open Go.RowKit
theorem WB.fresh (w : World) (t : TypeId) (m : Nat) (cs : Array Value) (h : cs.size = m) : WB (w.alloc (.cells cs t)) w.heap.size t m [] := ⟨cs, heap_alloc_new w _, h, fun j hj => by simp at hj⟩
theorem below_setCell {B : Nat} {w wr : World} {g : Nat} (h : Below B w wr) (hB : B ≤ g) (k : Nat) (v : Value) : Below B w (wr.setCell ⟨g, k, none⟩ v) :=
  ⟨h.os, h.tape, h.output, by simpa [World.setCell] using h.size, fun j hj => (Below.heap_setCell wr _ _ _ (fun e => by have e : j = g := e; omega)).trans (h.block j hj)⟩
theorem reads_mid {w w' : World} {bb off n : Nat} {l : List UInt8} (h : Reads w w.heap.size 1 (some ⟨bb, off, none⟩) n (bvs l)) (hb : Below w.heap.size w w') (o m : Nat) (hm : o + m ≤ n) : Reads w' w.heap.size 1 (some ⟨bb, off + o, none⟩) m (bvs ((l.drop o).take m)) := by
  have hl : l.length = n := by have := h.1; rw [bvs_length] at this; omega
  refine ⟨by rw [bvs_length, List.length_take, List.length_drop]; omega, fun h0 => ?_⟩
  obtain ⟨ad, hA, hlt, hc⟩ := h.2 (by omega)
  cases hA
  refine ⟨_, rfl, hlt, fun j u hu => ?_⟩
  have hj : j < m := by
    have := (List.getElem?_eq_some_iff.1 hu).1
    rw [bvs_length, List.length_take] at this
    omega
  rw [add_none]
  refine (hb.cell (p := ⟨bb, off + o + j, none⟩) hlt).trans ?_
  have h1 := hc (o + j) u (by
    simp only [bvs, List.getElem?_map, List.getElem?_take, List.getElem?_drop, if_pos hj] at hu ⊢
    exact hu)
  rw [add_none, ← Nat.add_assoc] at h1
  exact h1
/-- The table of constants lies at block 0. -/
def KT (w : World) (K : List Int) : Prop := 1 < w.heap.size ∧ K.length = 64 ∧ ∀ j, j < 64 → w.cell? ⟨1, j, none⟩ = some (.int .u32 (K.getD j 0))
theorem KT.bel {w w' : World} {K : List Int} (h : KT w K) (hb : Below w.heap.size w w') : KT w' K :=
  ⟨Nat.lt_of_lt_of_le h.1 hb.size, h.2.1, fun j hj => (hb.cell (p := ⟨1, j, none⟩) h.1).trans (h.2.2 j hj)⟩
/-- The eight words of a hash, at the beginning of a block. -/
def ST (w : World) (g : Nat) (t : TypeId) (cur : Array Value) (R : R8) : Prop := w.heap[g]? = some (.cells cur t (0, 0)) ∧ 8 ≤ cur.size ∧ ∀ (j : Nat) (v : Int), R.l[j]? = some v → cur[j]? = some (Value.int .u32 v)
theorem ST.bel {w w' : World} {g : Nat} {t : TypeId} {cur : Array Value} {R : R8} (h : ST w g t cur R) (hb : Below w.heap.size w w') : ST w' g t cur R := ⟨(hb.block g (lt_heap h.1)).trans h.1, h.2⟩
theorem ST.cell {w : World} {g : Nat} {t : TypeId} {cur : Array Value} {R : R8} (h : ST w g t cur R) (j : Nat) (v : Int) (hj : R.l[j]? = some v) : w.cell? ⟨g, j, none⟩ = some (.int .u32 v) := by
  rw [cell_of_row w g j _ _ _ h.1]; exact h.2.2 j v hj
theorem below_drew {B : Nat} {w w' : World} (h : Below B w w') : Below B w w'.drew := ⟨h.os, h.tape, h.output, h.size, h.block⟩
def BlkPost (g : Nat) (t : TypeId) (cur : Array Value) (Y : R8) (w : World) (e : Ending) (w' : World) : Prop := e = .returned (.tuple #[]) ∧ Frm [g] w w' ∧ w'.heap[g]? = some (.cells (over cur (w32s Y.l)) t (0, 0))
theorem add_get {R X : R8} {n : Nat} {r x : Int} (h1 : R.l[n]? = some r) (h2 : X.l[n]? = some x) : (addR R X).l[n]? = some ((r + x) % 4294967296) := by
  match n, h1, h2 with
  | 0, h1, h2 => simp only [R8.l, List.getElem?_cons_zero, Option.some.injEq] at h1 h2; subst h1 h2; rfl
  | 1, h1, h2 => simp [R8.l] at h1 h2; subst h1 h2; rfl
  | 2, h1, h2 => simp [R8.l] at h1 h2; subst h1 h2; rfl
  | 3, h1, h2 => simp [R8.l] at h1 h2; subst h1 h2; rfl
  | 4, h1, h2 => simp [R8.l] at h1 h2; subst h1 h2; rfl
  | 5, h1, h2 => simp [R8.l] at h1 h2; subst h1 h2; rfl
  | 6, h1, h2 => simp [R8.l] at h1 h2; subst h1 h2; rfl
  | 7, h1, h2 => simp [R8.l] at h1 h2; subst h1 h2; rfl
  | n + 8, h1, _ => simp [R8.l] at h1
theorem l_len (R : R8) : R.l.length = 8 := rfl
theorem frm_drew {ps : List Nat} {w w' : World} (h : Frm ps w w') : Frm ps w w'.drew := ⟨h.os, h.tape, h.output, h.size, h.block⟩
theorem frm_below {g : Nat} {w w' : World} (h : Below w.heap.size w w') : Frm [g] w w' := Frm.of_below h
theorem run_index8 (xa xc xd xe xf xg xi xj : Int) (k : Nat) (x : Int) (h : (R8.mk xa xc xd xe xf xg xi xj).l[k]? = some x) (w : World) :
    (Instr.index 230 (.agg #[.int .u32 xa, .int .u32 xc, .int .u32 xd, .int .u32 xe, .int .u32 xf, .int .u32 xg, .int .u32 xi, .int .u32 xj]) (.int .i64 (k : Int))).run Tryz.prog w = .ok (.int .u32 x) w := by
  match k, h with
  | 0, h => simp [R8.l] at h; subst h; change _ = _; kernel_rfl
  | 1, h => simp [R8.l] at h; subst h; change _ = _; kernel_rfl
  | 2, h => simp [R8.l] at h; subst h; change _ = _; kernel_rfl
  | 3, h => simp [R8.l] at h; subst h; change _ = _; kernel_rfl
  | 4, h => simp [R8.l] at h; subst h; change _ = _; kernel_rfl
  | 5, h => simp [R8.l] at h; subst h; change _ = _; kernel_rfl
  | 6, h => simp [R8.l] at h; subst h; change _ = _; kernel_rfl
  | 7, h => simp [R8.l] at h; subst h; change _ = _; kernel_rfl
  | n + 8, h => simp [R8.l] at h
set_option maxRecDepth 100000 in
set_option maxHeartbeats 2000000 in
theorem block_any (A : Option Addr) (c : Nat) (g : Nat) (t : TypeId) (cur : Array Value) (R : R8) (K : List Int) (l : List UInt8) (w : World) (hst : ST w g t cur R) (hkt : KT w K) (hr : Reads w w.heap.size 1 A 64 (bvs l)) (hc : 64 ≤ c) :
    Calls Tryz.prog 127 #[.pointer (some ⟨g, 0, none⟩), .slice A 64 c] w (BlkPost g t cur (blockF K R l) w) := by
  have hcI : (64 : Int) ≤ (c : Int) := by omega
  have HR := Lib.hid hr
  have HC := Lib.hid hc
  have HST := Lib.hid hst
  have HKT := Lib.hid hkt
  clear hr hst hkt
  obtain ⟨zs, hzs⟩ : ∃ zs : Array Value, zs = Array.replicate 64 (.int .u32 0) := ⟨_, rfl⟩
  have hz : ∀ w, (zeroValue 271).run Tryz.prog w = .ok (.agg zs) w := fun w => by rw [hzs]; kernel_rfl
  have hzz : Hid (zs.size = 64) := by show _ = _; rw [hzs]; rfl
  clear hzs
  go_enter Tryz.func127, Tryz.ntmps127
  go_wp2
  obtain ⟨w1, hw1⟩ : ∃ w1, w1 = w.alloc (.cells zs 271) := ⟨_, rfl⟩
  obtain ⟨gw, hgw⟩ : ∃ gw, gw = w.heap.size := ⟨_, rfl⟩
  have B1 : Hid (Below w.heap.size w w1) := by show Below _ _ _; rw [hw1]; exact (Below.refl _ w).alloc (Nat.le_refl _) _
  have W1 : Hid (WB w1 gw 271 64 []) := by show WB _ _ _ _ _; rw [hw1, hgw]; exact WB.fresh _ _ _ _ hzz.out
  rw [← hw1, ← hgw]
  have GE : Hid (w.heap.size ≤ gw) := by show _ ≤ _; rw [hgw]; exact Nat.le_refl _
  clear hw1 hgw hz hzz
  obtain ⟨bb, off, hA, hbb, _⟩ := HR.out.bytes (by omega)
  subst hA
  go_loopw [26] (fun i wr => ∃ k : Nat, k ≤ 16 ∧ i = .int .i64 (k : Int) ∧ Hid (Below w.heap.size w wr ∧ WB wr gw 271 64 (schedL l k))) (fun i _ => 16 - (intOf i).toNat)
  case atStart => exact ⟨0, Nat.zero_le _, rfl, B1.out, W1.out⟩
  case round =>
    obtain ⟨k, hk, rfl, hO⟩ := hrel
    by_cases hlt : k < 16
    · have hlt' : (k : Int) < 16 := by omega
      have hk0 : (0 : Int) ≤ (k : Int) := by omega
      obtain ⟨v0, cc⟩ := hO.out.2.any k (by omega)
      have hfz := hO.out.2.unfrozen
      have HO1 := Lib.hid hO.out.1
      have HO2 := Lib.hid hO.out.2
      have HK := Lib.hid hlt
      clear hO
      have SN : Hid (schedL l (k + 1) = schedL l k ++ [IntKind.u32.wrap (wordI ((l.drop (4 * k)).take 4))]) := by show _ = _; rw [schedL, if_pos hlt]
      go_wp2_with (go_at_call 156; go_must (refine (word_any _ 4 _ ((l.drop (4 * k)).take 4) wr w.heap.size (reads_mid HR.out HO1.out (4 * k) 4 (by have := HK.out; omega)) (by omega)).mono ?_; rintro e w2 ⟨rfl, rfl⟩))
      go_roundw
      case rel => exact ⟨k + 1, HK.out, by go_num, below_setCell HO1.out GE.out _ _, by rw [SN.out]; exact HO2.out.put k (schedL_len l k).symm (by have := HK.out; omega) _⟩
      case measure => simp [intOf]; omega
    · have hk16 : k = 16 := by omega
      have hd : decide ((k : Int) < 16) = false := by simp; omega
      have HO : Hid (Below w.heap.size w wr ∧ WB wr gw 271 64 (schedL l 16)) := by show _ ∧ _; rw [← hk16]; exact hO.out
      clear hO hlt hk hk16
      go_wp2
      go_loopw [6] (fun i wr => ∃ j : Nat, j ≤ 48 ∧ i = .int .i64 ((j : Int) + 16) ∧ Hid (Below w.heap.size w wr ∧ WB wr gw 271 64 (schedL l (j + 16)))) (fun i _ => 64 - (intOf i).toNat)
      case atStart => exact ⟨0, Nat.zero_le _, by go_num, HO.out⟩
      clear HO
      case round =>
        obtain ⟨j, hj, rfl, hO⟩ := hrel
        by_cases hlt : j < 48
        · have hlt' : (j : Int) + 16 < 64 := by omega
          have hj0 : (0 : Int) ≤ (j : Int) := by omega
          obtain ⟨L, hL⟩ : ∃ L, L = schedL l (j + 16) := ⟨_, rfl⟩
          have hLl : L.length = j + 16 := by rw [hL, schedL_len]
          rw [← hL] at hO
          have HO1 := Lib.hid hO.out.1
          have HO2 := Lib.hid hO.out.2
          have HLL := Lib.hid hLl
          have HL := Lib.hid hL
          have HJ := Lib.hid hlt
          obtain ⟨v0, cc⟩ := hO.out.2.any (j + 16) (by omega)
          have hfz := hO.out.2.unfrozen
          obtain ⟨x2, hx2⟩ : ∃ x, x = L.getD (j + 14) 0 := ⟨_, rfl⟩
          obtain ⟨x15, hx15⟩ : ∃ x, x = L.getD (j + 1) 0 := ⟨_, rfl⟩
          obtain ⟨x7, hx7⟩ : ∃ x, x = L.getD (j + 9) 0 := ⟨_, rfl⟩
          obtain ⟨x16, hx16⟩ : ∃ x, x = L.getD j 0 := ⟨_, rfl⟩
          have c2 := hO.out.2.cell (j + 14) (by omega)
          have c15 := hO.out.2.cell (j + 1) (by omega)
          have c7 := hO.out.2.cell (j + 9) (by omega)
          have c16 := hO.out.2.cell j (by omega)
          rw [← hx2] at c2
          rw [← hx15] at c15
          rw [← hx7] at c7
          rw [← hx16] at c16
          have b2 : (0 : Int) ≤ (j : Int) + 14 := by omega
          have SN : Hid (schedL l (j + 17) = L ++ [(sig1 x2 + x7 + sig0 x15 + x16) % 4294967296]) := by
            show _ = _
            rw [schedL, if_neg (by omega), ← hL, hx2, hx15, hx7, hx16, show j + 16 - 2 = j + 14 from by omega, show j + 16 - 15 = j + 1 from by omega, show j + 16 - 7 = j + 9 from by omega, show j + 16 - 16 = j from by omega]
          clear hL hLl hO hx2 hx15 hx7 hx16
          have GL : Hid (gw < wr.heap.size) := by obtain ⟨_, h_, _⟩ := HO2.out; exact lt_heap h_
          go_wp2
          go_quiet (fail)
          obtain ⟨w5, hw5⟩ : ∃ w5, w5 = wr.drewN nq := ⟨_, rfl⟩
          have HB5 : Hid (Below wr.heap.size wr w5) := by show Below _ _ _; rw [hw5]; exact ⟨rfl, rfl, rfl, Nat.le_refl _, fun _ _ => rfl⟩
          rw [← hw5]
          clear hw5
          have T0 : Hid True := trivial
          go_wp2_with (first
            | (go_at_call 157; have hx_ := T0; go_must (refine (rot17 _ _).mono ?_; rintro e w6 ⟨rfl, h6⟩; have h6 := h6.symm; subst h6; have T1 := hx_; clear T0 hx_))
            | (go_at_call 157; have hx_ := T1; go_must (refine (rot19 _ _).mono ?_; rintro e w6 ⟨rfl, h6⟩; have h6 := h6.symm; subst h6; have T2 := hx_; clear T1 hx_))
            | (go_at_call 157; have hx_ := T2; go_must (refine (rot7 _ _).mono ?_; rintro e w6 ⟨rfl, h6⟩; have h6 := h6.symm; subst h6; have T3 := hx_; clear T2 hx_))
            | (go_at_call 157; have hx_ := T3; go_must (refine (rot18 _ _).mono ?_; rintro e w6 ⟨rfl, h6⟩; have h6 := h6.symm; subst h6; have T4 := hx_; clear T3 hx_)))
          obtain ⟨s1, hs1⟩ : ∃ s1, sig1 x2 = s1 := ⟨_, rfl⟩
          obtain ⟨s0, hs0⟩ : ∃ s0, sig0 x15 = s0 := ⟨_, rfl⟩
          have HS1 := Lib.hid hs1
          have HS0 := Lib.hid hs0
          unfold sig1 at hs1
          unfold sig0 at hs0
          rw [hs1, hs0]
          clear hs1 hs0 HL hlt hj
          have d7 := (HB5.out.cell (p := ⟨gw, j + 9, none⟩) GL.out).trans c7
          have d16 := (HB5.out.cell (p := ⟨gw, j, none⟩) GL.out).trans c16
          clear c7 c16 c2 c15 cc hfz
          have WW : Hid (WB w5 gw 271 64 L) := HO2.out.bel HB5.out
          have BW := Lib.hid (HO1.out.trans (HB5.out.mono HO1.out.size))
          obtain ⟨v9, cc9⟩ := WW.out.any (j + 16) (by have := HJ.out; omega)
          have hfz9 := WW.out.unfrozen
          refine wp_quiet_tail 15 (by kernel_rfl) (by kernel_rfl) ?_
          simp only [List.take_succ_cons, List.take_zero, List.drop_succ_cons, List.drop_zero]
          repeat (go_big_quiet_step (fail))
          refine wpQuiet_nil ?_
          go_wp2
          go_roundw
          case rel => exact ⟨j + 1, HJ.out, by go_num, below_drew (below_setCell BW.out GE.out _ _), by
            rw [show j + 1 + 16 = j + 17 from by omega, SN.out, HS1.out, HS0.out]
            exact WW.out.put (j + 16) HLL.out.symm (by have := HJ.out; omega) _⟩
          case measure => simp [intOf]; omega
        · have hj48 : j = 48 := by omega
          have hd : decide ((j : Int) + 16 < 64) = false := by simp; omega
          have HO1 := Lib.hid hO.out.1
          have HO2 : Hid (WB wr gw 271 64 (schedL l 64)) := by show WB _ _ _ _ _; have := hO.out.2; rw [hj48] at this; exact this
          clear hO hlt hj hj48
          go_wp2
          have sv := HST.out.bel (HO1.out.mono (Nat.le_refl _))
          have f0 := sv.cell 0 _ rfl
          have f1 := sv.cell 1 _ rfl
          have f2 := sv.cell 2 _ rfl
          have f3 := sv.cell 3 _ rfl
          have f4 := sv.cell 4 _ rfl
          have f5 := sv.cell 5 _ rfl
          have f6 := sv.cell 6 _ rfl
          have f7 := sv.cell 7 _ rfl
          clear sv
          go_quiet (fail)
          obtain ⟨w5, hw5⟩ : ∃ w5, w5 = wr.drewN nq := ⟨_, rfl⟩
          have HB5 : Hid (Below w.heap.size w w5) := by show Below _ _ _; rw [hw5]; exact HO1.out.trans ⟨rfl, rfl, rfl, Nat.le_refl _, fun _ _ => rfl⟩
          obtain ⟨W, hW⟩ : ∃ W, W = schedL l 64 := ⟨_, rfl⟩
          have HW5 : Hid (WB w5 gw 271 64 W) := by show WB _ _ _ _ _; rw [hw5, hW]; exact HO2.out
          have HWl : Hid (W.length = 64) := by show _ = _; rw [hW, schedL_len]
          rw [← hw5]
          clear hw5 HO1 HO2 f0 f1 f2 f3 f4 f5 f6 f7
          go_wp2
          go_loopw [11, 12, 13, 14, 15, 16, 17, 18, 116] (fun a c d e f g i j t wr => ∃ (k : Nat) (X : R8), k ≤ 64 ∧ t = .int .i64 (k : Int) ∧ a = .int .u32 X.a ∧ c = .int .u32 X.c ∧ d = .int .u32 X.d ∧ e = .int .u32 X.e ∧ f = .int .u32 X.f ∧ g = .int .u32 X.g ∧ i = .int .u32 X.i ∧ j = .int .u32 X.j ∧ Hid (X = rnds K W R k ∧ Below w.heap.size w wr ∧ WB wr gw 271 64 W)) (fun _ _ _ _ _ _ _ _ t _ => 64 - (intOf t).toNat)
          case atStart => exact ⟨0, R, Nat.zero_le _, rfl, rfl, rfl, rfl, rfl, rfl, rfl, rfl, rfl, rfl, HB5.out, HW5.out⟩
          case round =>
            obtain ⟨k, X, hk, rfl, rfl, rfl, rfl, rfl, rfl, rfl, rfl, rfl, hO⟩ := hrel
            obtain ⟨xa, xc, xd, xe, xf, xg, xi, xj⟩ := X
            have HX := Lib.hid hO.out.1
            have HO1 := Lib.hid hO.out.2.1
            have HO2 := Lib.hid hO.out.2.2
            clear hO
            by_cases hlt : k < 64
            · have hlt' : (k : Int) < 64 := by omega
              have hk0 : (0 : Int) ≤ (k : Int) := by omega
              have HK := Lib.hid hlt
              obtain ⟨kv, hkv⟩ : ∃ x, x = K.getD k 0 := ⟨_, rfl⟩
              obtain ⟨wv, hwv⟩ : ∃ x, x = W.getD k 0 := ⟨_, rfl⟩
              have ck := (HO1.out.cell (p := ⟨1, k, none⟩) HKT.out.1).trans (HKT.out.2.2 k hlt)
              have cw := HO2.out.cell k (by rw [HWl.out]; exact hlt)
              rw [← hkv] at ck
              rw [← hwv] at cw
              have HKV := Lib.hid hkv
              have HWV := Lib.hid hwv
              clear hkv hwv hlt
              have T0 : Hid True := trivial
              go_wp2_with (first
                | (go_at_call 157; have hx_ := T0; go_must (refine (rot6 _ _).mono ?_; rintro e w6 ⟨rfl, h6⟩; have h6 := h6.symm; subst h6; have T1 := hx_; clear T0 hx_))
                | (go_at_call 157; have hx_ := T1; go_must (refine (rot11 _ _).mono ?_; rintro e w6 ⟨rfl, h6⟩; have h6 := h6.symm; subst h6; have T2 := hx_; clear T1 hx_))
                | (go_at_call 157; have hx_ := T2; go_must (refine (rot25 _ _).mono ?_; rintro e w6 ⟨rfl, h6⟩; have h6 := h6.symm; subst h6; have T3 := hx_; clear T2 hx_)))
              obtain ⟨s1, hs1⟩ : ∃ s1, big1 xf = s1 := ⟨_, rfl⟩
              have HS1 := Lib.hid hs1
              unfold big1 at hs1
              rw [hs1]
              clear hs1
              go_quiet (fail)
              obtain ⟨t1, ht1⟩ : ∃ t1, t1F xj s1 xf xg xi kv wv = t1 := ⟨_, rfl⟩
              have HT1 := Lib.hid ht1
              unfold t1F at ht1
              rw [ht1]
              clear ht1
              obtain ⟨w7, hw7⟩ : ∃ w7, w7 = wr.drewN nq := ⟨_, rfl⟩
              have HB7 : Hid (Below w.heap.size w w7) := by show Below _ _ _; rw [hw7]; exact HO1.out.trans ⟨rfl, rfl, rfl, Nat.le_refl _, fun _ _ => rfl⟩
              have HW7 : Hid (WB w7 gw 271 64 W) := by show WB _ _ _ _ _; rw [hw7]; exact HO2.out
              rw [← hw7]
              clear hw7 ck cw HO1 HO2
              go_wp2_with (first
                | (go_at_call 157; have hx_ := T3; go_must (refine (rot2 _ _).mono ?_; rintro e w6 ⟨rfl, h6⟩; have h6 := h6.symm; subst h6; have T4 := hx_; clear T3 hx_))
                | (go_at_call 157; have hx_ := T4; go_must (refine (rot13 _ _).mono ?_; rintro e w6 ⟨rfl, h6⟩; have h6 := h6.symm; subst h6; have T5 := hx_; clear T4 hx_))
                | (go_at_call 157; have hx_ := T5; go_must (refine (rot22 _ _).mono ?_; rintro e w6 ⟨rfl, h6⟩; have h6 := h6.symm; subst h6; have T6 := hx_; clear T5 hx_)))
              go_roundw
              case rel =>
                have e1 := HT1.out
                have e2 := HS1.out
                subst e2
                subst e1
                exact ⟨k + 1, rnd ⟨xa, xc, xd, xe, xf, xg, xi, xj⟩ kv wv, HK.out, by go_num, rfl, rfl, rfl, rfl, rfl, rfl, rfl, rfl, by rw [rnds, ← HX.out, HKV.out, HWV.out], HB7.out, HW7.out⟩
              case measure => simp [intOf]; omega
            · have hk64 : k = 64 := by omega
              have hd' : decide ((k : Int) < 64) = false := by simp; omega
              have HX' : Hid (R8.mk xa xc xd xe xf xg xi xj = rnds K (schedL l 64) R 64) := by show _ = _; rw [HX.out, hk64, hW]
              clear hlt hk hk64 HX HO2 HW5 HWl hW
              go_wp2
              obtain ⟨X, hX⟩ : ∃ X, X = R8.mk xa xc xd xe xf xg xi xj := ⟨_, rfl⟩
              have HXX := Lib.hid hX
              clear hX
              have W8 : Hid (wr.heap[g]? = some (.cells (over cur (w32s ((addR R X).l.take 0))) t (0, 0))) := by show _ = _; rw [List.take_zero, show w32s [] = [] from rfl, over_nil]; exact (HST.out.bel HO1.out).1
              go_loopw [190] (fun i wr => ∃ n : Nat, n ≤ 8 ∧ i = .int .i64 (n : Int) ∧ Hid (Frm [g] w wr ∧ wr.heap[g]? = some (.cells (over cur (w32s ((addR R X).l.take n))) t (0, 0)))) (fun i _ => 8 - (intOf i).toNat)
              case atStart => exact ⟨0, Nat.zero_le _, rfl, frm_below HO1.out, W8.out⟩
              clear W8 HO1
              case round =>
                obtain ⟨n, hn, rfl, hO⟩ := hrel
                by_cases hlt : n < 8
                · have hlt' : (n : Int) < 8 := by omega
                  have hn0 : (0 : Int) ≤ (n : Int) := by omega
                  obtain ⟨r, hr⟩ : ∃ r, R.l[n]? = some r := ⟨R.l[n]'(by rw [l_len]; exact hlt), List.getElem?_eq_getElem _⟩
                  obtain ⟨x, hx⟩ : ∃ x, X.l[n]? = some x := ⟨X.l[n]'(by rw [l_len]; exact hlt), List.getElem?_eq_getElem _⟩
                  have hidx := run_index8 xa xc xd xe xf xg xi xj n x (by rw [← HXX.out]; exact hx)
                  have hlen : (w32s ((addR R X).l.take n)).length = n := by simp only [w32s, List.length_map, List.length_take, l_len]; omega
                  have cc : wr.cell? ⟨g, n, none⟩ = some (.int .u32 r) := by
                    rw [cell_of_row _ g n _ _ _ hO.out.2, over_get _ _ _ (by omega)]
                    exact HST.out.2.2 n r hr
                  have hfz := frozen_row hO.out.2
                  have SN : Hid (w32s ((addR R X).l.take (n + 1)) = w32s ((addR R X).l.take n) ++ [.int .u32 ((r + x) % 4294967296)]) := by
                    show _ = _
                    have h1 := add_get hr hx
                    rw [List.take_add_one, h1]
                    simp [w32s]
                  have HO := Lib.hid hO.out
                  have HL := Lib.hid hlen
                  have HN := Lib.hid hlt
                  clear hO hr hx hlen hlt hn
                  go_wp2
                  refine wp_quiet_tail 9 (by kernel_rfl) (by kernel_rfl) ?_
                  simp only [List.take_succ_cons, List.take_zero, List.drop_succ_cons, List.drop_zero]
                  repeat (go_big_quiet_step (fail))
                  refine wpQuiet_nil ?_
                  go_wp2
                  go_roundw
                  case rel =>
                    refine ⟨n + 1, HN.out, by go_num, frm_drew (HO.out.1.trans (Frm.setCell wr g n (.int .u32 ((r + x) % 4294967296)))), ?_⟩
                    have h2 := over_set cur (w32s ((addR R X).l.take n)) (.int .u32 ((r + x) % 4294967296)) (by rw [HL.out]; exact Nat.lt_of_lt_of_le HN.out HST.out.2.1)
                    rw [SN.out, ← h2, HL.out]
                    exact heap_setCell_same wr g n _ t _ HO.out.2
                  case measure => simp [intOf]; omega
                · have hn8 : n = 8 := by omega
                  have hd9 : decide ((n : Int) < 8) = false := by simp; omega
                  have HO : Hid (Frm [g] w wr ∧ wr.heap[g]? = some (.cells (over cur (w32s (blockF K R l).l)) t (0, 0))) := by
                    show _ ∧ _
                    refine ⟨hO.out.1, ?_⟩
                    have h3 := hO.out.2
                    rw [hn8, List.take_of_length_le (by rw [l_len]; omega), HXX.out, HX'.out] at h3
                    exact h3
                  clear hO hlt hn hn8
                  go_wp2
                  go_end0
                  exact ⟨rfl, HO.out.1, HO.out.2⟩
end Go.Proofs.YtbcpmnnlhdgbhaaGreatDoor

namespace Go.Proofs.YtbcpmnnlhdgbhaaGreatDoor
open Go.RowKit
def z8 : R8 := ⟨1779033703, 3144134277, 1013904242, 2773480762, 1359893119, 2600822924, 528734635, 1541459225⟩
/-- The state behind i blocks. -/
def stN (K : List Int) (m : List UInt8) : Nat → R8
  | 0 => z8
  | i + 1 => blockF K (stN K m i) ((m.drop (64 * i)).take 64)
def stF (K : List Int) (m : List UInt8) : R8 := stN K m (m.length / 64)
theorem stN_app (K : List Int) (m x : List UInt8) : ∀ i, 64 * i ≤ m.length → stN K (m ++ x) i = stN K m i
  | 0, _ => rfl
  | i + 1, h => by
    rw [stN, stN, stN_app K m x i (by omega)]
    congr 1
    rw [List.drop_append_of_le_length (by omega), List.take_append_of_le_length (by rw [List.length_drop]; omega)]
theorem stF_same (K : List Int) (m x : List UInt8) (h : m.length % 64 + x.length < 64) : stF K (m ++ x) = stF K m := by
  unfold stF
  have e : (m ++ x).length / 64 = m.length / 64 := by rw [List.length_append]; omega
  rw [e, stN_app K m x _ (by omega)]
def tailF (m : List UInt8) : List UInt8 := m.drop (64 * (m.length / 64))
theorem tailF_len (m : List UInt8) : (tailF m).length = m.length % 64 := by unfold tailF; rw [List.length_drop]; omega
theorem tailF_same (m x : List UInt8) (h : m.length % 64 + x.length < 64) : tailF (m ++ x) = tailF m ++ x := by
  unfold tailF
  have e : (m ++ x).length / 64 = m.length / 64 := by rw [List.length_append]; omega
  rw [e, List.drop_append_of_le_length (by omega)]
theorem stF_full (K : List Int) (m x : List UInt8) (h : m.length % 64 + x.length = 64) : stF K (m ++ x) = blockF K (stF K m) (tailF m ++ x) := by
  unfold stF
  have e : (m ++ x).length / 64 = m.length / 64 + 1 := by rw [List.length_append]; omega
  rw [e, stN, stN_app K m x _ (by omega)]
  congr 1
  rw [List.drop_append_of_le_length (by omega)]
  exact List.take_of_length_le (by rw [List.length_append, List.length_drop]; omega)
theorem tailF_full (m x : List UInt8) (h : m.length % 64 + x.length = 64) : tailF (m ++ x) = [] := by
  apply List.eq_nil_of_length_eq_zero
  rw [tailF_len, List.length_append]; omega
/-- The 73 cells of a Hash. -/
def hsC (R : R8) (buf : List UInt8) (n : Int) : Array Value := (w32s R.l ++ bvs buf ++ [Value.int .u64 n]).toArray
theorem w32s_len (R : R8) : (w32s R.l).length = 8 := rfl
theorem hsC_size (R : R8) (buf : List UInt8) (n : Int) (h : buf.length = 64) : (hsC R buf n).size = 73 := by
  simp [hsC, w32s_len, bvs_length, h]
theorem hsC_st {w : World} {g : Nat} {t : TypeId} {R : R8} {buf : List UInt8} {n : Int} (h : w.heap[g]? = some (.cells (hsC R buf n) t (0, 0))) (hb : buf.length = 64) : ST w g t (hsC R buf n) R := by
  refine ⟨h, by rw [hsC_size _ _ _ hb]; omega, fun j v hj => ?_⟩
  have hlt : j < 8 := by
    have := (List.getElem?_eq_some_iff.1 hj).1
    exact this
  simp only [hsC, List.getElem?_toArray]
  rw [List.append_assoc, List.getElem?_append_left (by rw [w32s_len]; exact hlt), w32s, List.getElem?_map, hj]
  rfl
theorem hsC_over (R Y : R8) (buf : List UInt8) (n : Int) : over (hsC R buf n) (w32s Y.l) = hsC Y buf n := by
  unfold over hsC
  rw [w32s_len, List.toList_toArray, List.append_assoc, List.drop_append_of_le_length (by rw [w32s_len]; omega), List.drop_of_length_le (by rw [w32s_len]; omega)]
  simp
theorem hsC_put (R : R8) (buf : List UInt8) (n n' : Int) (hb : buf.length = 64) : (hsC R buf n).setIfInBounds 72 (.int .u64 n') = hsC R buf n' := by
  unfold hsC
  rw [List.setIfInBounds_toArray, List.set_append_right _ _ (by simp [w32s_len, bvs_length, hb])]
  simp [w32s_len, bvs_length, hb]
theorem hsC_copy (R : R8) (buf x : List UInt8) (n : Int) (a k : Nat) (hb : buf.length = 64) (hak : a + k ≤ 64) (hx : x.length = k) :
    ((hsC R buf n).toList.take (8 + a) ++ bvs x ++ (hsC R buf n).toList.drop (8 + a + k)).toArray = hsC R (buf.take a ++ x ++ buf.drop (a + k)) n := by
  unfold hsC
  have h8 := w32s_len R
  rw [List.toList_toArray, List.append_assoc (w32s R.l), List.take_append, List.take_of_length_le (by omega), h8, List.drop_append, List.drop_of_length_le (by omega), h8]
  rw [show 8 + a - 8 = a from by omega, show 8 + a + k - 8 = a + k from by omega, List.take_append_of_le_length (by rw [bvs_length]; omega), List.drop_append_of_le_length (by rw [bvs_length]; omega)]
  simp [bvs, List.map_take, List.map_drop]
theorem hsC_num {w : World} {g : Nat} {t : TypeId} {R : R8} {buf : List UInt8} {n : Int} (h : w.heap[g]? = some (.cells (hsC R buf n) t (0, 0))) (hb : buf.length = 64) : w.cell? ⟨g, 72, none⟩ = some (.int .u64 n) := by
  rw [cell_of_row w g 72 _ _ _ h]
  simp only [hsC, List.getElem?_toArray]
  rw [List.getElem?_append_right (by simp [w32s_len, bvs_length, hb])]
  simp [w32s_len, bvs_length, hb]
theorem hsC_rest {w : World} {g : Nat} {t : TypeId} {R : R8} {buf : List UInt8} {n : Int} (h : w.heap[g]? = some (.cells (hsC R buf n) t (0, 0))) (hb : buf.length = 64) : Reads w w.heap.size 1 (some ⟨g, 8, none⟩) 64 (bvs buf) := by
  refine ⟨by rw [bvs_length, hb], fun _ => ⟨_, rfl, lt_heap h, fun j u hu => ?_⟩⟩
  have hj : j < 64 := by
    have := (List.getElem?_eq_some_iff.1 hu).1
    rw [bvs_length, hb] at this; exact this
  rw [add_none, cell_of_row w g (8 + j) _ _ _ h]
  simp only [hsC, List.getElem?_toArray]
  rw [List.append_assoc, List.getElem?_append_right (by rw [w32s_len]; omega), w32s_len, show 8 + j - 8 = j from by omega, List.getElem?_append_left (by rw [bvs_length]; omega)]
  exact hu
/-- A Hash that has taken m. -/
def Hs (w : World) (g : Nat) (K : List Int) (m : List UInt8) : Prop :=
  ∃ buf : List UInt8, buf.length = 64 ∧ buf.take (m.length % 64) = tailF m ∧ w.heap[g]? = some (.cells (hsC (stF K m) buf (m.length : Int)) 234 (0, 0))
theorem Hs.lt {w : World} {g : Nat} {K : List Int} {m : List UInt8} (h : Hs w g K m) : g < w.heap.size := by obtain ⟨_, _, _, h⟩ := h; exact lt_heap h
theorem Hs.frm {w w' : World} {g : Nat} {K : List Int} {m : List UInt8} {ps : List Nat} (h : Hs w g K m) (hf : Frm ps w w') (hp : g ∉ ps) : Hs w' g K m := by
  obtain ⟨buf, h1, h2, h3⟩ := h
  exact ⟨buf, h1, h2, hf.heap h3 hp⟩
theorem KT.frm {w w' : World} {K : List Int} {ps : List Nat} (h : KT w K) (hf : Frm ps w w') (hp : 1 ∉ ps) : KT w' K :=
  ⟨Nat.lt_of_lt_of_le h.1 hf.size, h.2.1, fun j hj => (World.cell?_of_block (a := ⟨1, j, none⟩) (hf.block 1 h.1 hp)).trans (h.2.2 j hj)⟩
theorem Reads.frm {w w' : World} {size n : Nat} {A : Option Addr} {xs : List Value} {ps : List Nat} (h : Reads w w.heap.size size A n xs) (hf : Frm ps w w') (hp : ∀ ad, A = some ad → ad.block ∉ ps) : Reads w' w'.heap.size size A n xs := by
  refine ⟨h.1, fun hn => ?_⟩
  obtain ⟨ad, e, hb, hc⟩ := h.2 hn
  refine ⟨ad, e, Nat.lt_of_lt_of_le hb hf.size, fun j u hu => ?_⟩
  refine (World.cell?_of_block ?_).trans (hc j u hu)
  rw [block_of_add]
  exact hf.block _ hb (hp ad e)
end Go.Proofs.YtbcpmnnlhdgbhaaGreatDoor

namespace Go.Proofs.YtbcpmnnlhdgbhaaGreatDoor
open Go.RowKit
/-- One piece of a Write. -/
theorem Hs.piece {m x buf : List UInt8} {k : Nat} (hb : buf.length = 64) (ht : buf.take (m.length % 64) = tailF m) (hx : x.length = k) (h : m.length % 64 + k < 64) :
    (buf.take (m.length % 64) ++ x ++ buf.drop (m.length % 64 + k)).length = 64 ∧ (buf.take (m.length % 64) ++ x ++ buf.drop (m.length % 64 + k)).take ((m ++ x).length % 64) = tailF (m ++ x) := by
  have e : (m ++ x).length % 64 = m.length % 64 + k := by rw [List.length_append]; omega
  refine ⟨by simp [hb, hx]; omega, ?_⟩
  rw [e, tailF_same m x (by omega), ht, List.take_append_of_le_length (by simp [tailF_len, hx]), List.take_of_length_le (by simp [tailF_len, hx])]
theorem sl64 (g o a : Nat) (ha : a < 64) (w : World) : (Instr.sliceAt 32 (.pointer (some ⟨g, o, none⟩)) (some (.int .i64 (a : Int))) none none).run Tryz.prog w = .ok (.slice (some ⟨g, o + a, none⟩) (64 - a) (64 - a)) w := by
  have e64 : Tryz.prog.arrayLen 32 = 64 := by kernel_rfl
  have h1 := run_sliceAt_array_l (P := Tryz.prog) w 32 ⟨g, o, none⟩ (by kernel_rfl) .i64 (a : Int) (by omega) (by rw [e64]; omega)
  have hs : (sizeOf (Tryz.prog.elem 32)).run Tryz.prog w = .ok 1 w := by kernel_rfl
  rw [h1, hs, Result.andThen_ok, e64]
  unfold slicedAt
  rw [Int.toNat_natCast, if_neg (by omega), Nat.mul_one, add_none]
theorem slAll64 (g o : Nat) (w : World) : (Instr.sliceAt 32 (.pointer (some ⟨g, o, none⟩)) none none none).run Tryz.prog w = .ok (.slice (some ⟨g, o, none⟩) 64 64) w := by
  have e64 : Tryz.prog.arrayLen 32 = 64 := by kernel_rfl
  have h1 := run_sliceAt_array_all (P := Tryz.prog) w 32 ⟨g, o, none⟩ (by kernel_rfl)
  have hs : (sizeOf (Tryz.prog.elem 32)).run Tryz.prog w = .ok 1 w := by kernel_rfl
  rw [h1, hs, Result.andThen_ok, e64]
  unfold slicedAt
  rw [if_neg (by omega), add_none, Nat.zero_mul, Nat.add_zero]
theorem slK8 {A : Option Addr} {n c k : Nat} (hk : k ≤ n) (w : World) : (Instr.slice 96 (.slice A n c) (some (.int .i64 (k : Int))) none none).run Tryz.prog w = .ok (.slice (if c = k then A else A.map (·.add (k * 1))) (n - k) (c - k)) w := by
  have h1 := run_slice_l (P := Tryz.prog) w 96 A n c (by kernel_rfl) .i64 (k : Int) (by omega) (by omega)
  have hs : (sizeOf (Tryz.prog.elem 96)).run Tryz.prog w = .ok 1 w := by kernel_rfl
  rw [h1, hs, Result.andThen_ok]
  unfold sliced
  rw [Int.toNat_natCast]
theorem map_block {A : Option Addr} {c k g : Nat} (h : ∀ ad, A = some ad → ad.block ≠ g) : ∀ ad, (if c = k then A else A.map (·.add (k * 1))) = some ad → ad.block ≠ g := by
  intro ad e
  split at e
  · exact h ad e
  · cases A with
    | none => cases e
    | some a0 =>
      cases e
      rw [block_of_add]
      exact h a0 rfl
def lenV : Value → Nat
  | .slice _ n _ => n
  | _ => 0
def HWritePost (g : Nat) (K : List Int) (m : List UInt8) (w : World) (e : Ending) (w' : World) : Prop := e = .returned (.tuple #[]) ∧ Frm [g] w w' ∧ Hs w' g K m
set_option maxRecDepth 100000 in
set_option maxHeartbeats 2000000 in
theorem HWrite_any (A : Option Addr) (n c g : Nat) (K : List Int) (m b : List UInt8) (w : World) (hh : Hs w g K m) (hkt : KT w K) (hg0 : g ≠ 1) (hr : Reads w w.heap.size 1 A n (bvs b)) (hc : n ≤ c) (hA : ∀ ad, A = some ad → ad.block ≠ g) (hl : m.length + b.length ≤ 4611686018427387904) :
    Calls Tryz.prog 97 #[.pointer (some ⟨g, 0, none⟩), .slice A n c] w (HWritePost g K (m ++ b) w) := by
  have HH := Lib.hid hh
  have HKT := Lib.hid hkt
  have HG := Lib.hid hg0
  have HR := Lib.hid hr
  have HA := Lib.hid hA
  have HL := Lib.hid hl
  have HC := Lib.hid hc
  clear hh hkt hg0 hr hA hl hc
  go_enter Tryz.func97, Tryz.ntmps97
  go_wp2
  go_loopw [1] (fun s wr => ∃ (A : Option Addr) (n c : Nat) (d x : List UInt8), s = .slice A n c ∧ Hid (d ++ x = b ∧ Reads w w.heap.size 1 A n (bvs x) ∧ n ≤ c ∧ (∀ ad, A = some ad → ad.block ≠ g)) ∧ Hid (Frm [g] w wr ∧ Hs wr g K (m ++ d))) (fun s _ => lenV s)
  case atStart => exact ⟨A, n, c, [], b, rfl, ⟨rfl, HR.out, HC.out, HA.out⟩, ⟨Frm.refl _ _, by rw [List.append_nil]; exact HH.out⟩⟩
  case round =>
    obtain ⟨A1, n1, c1, d, x, rfl, hI, hO⟩ := hrel
    obtain ⟨M, hM⟩ : ∃ M, M = m ++ d := ⟨_, rfl⟩
    by_cases h0 : n1 = 0
    · subst h0
      have hx : x = [] := by
        have := hI.out.2.1.1
        rw [bvs_length] at this
        exact List.eq_nil_of_length_eq_zero (by omega)
      go_wp2
      go_end0
      refine ⟨rfl, hO.out.1, ?_⟩
      have h1 := hI.out.1
      rw [hx, List.append_nil] at h1
      rw [← h1]
      exact hO.out.2
    · have hn0 : (0 : Int) < (n1 : Int) := by omega
      obtain ⟨buf, hb, ht, hcells⟩ := hO.out.2
      rw [← hM] at hcells ht
      have hxl : x.length = n1 := by have := hI.out.2.1.1; rw [bvs_length] at this; omega
      have hMl : M.length + n1 ≤ 4611686018427387904 := by
        have h1 := HL.out
        rw [← hI.out.1, List.length_append] at h1
        rw [hM, List.length_append]
        omega
      obtain ⟨a, ha⟩ : ∃ a, a = M.length % 64 := ⟨_, rfl⟩
      obtain ⟨nI, hnI⟩ : ∃ nI : Int, nI = (M.length : Int) := ⟨_, rfl⟩
      have hmod : nI % 64 = (a : Int) := by rw [hnI, ha]; omega
      have ha64 : (a : Int) < 64 := by omega
      have ha0 : (0 : Int) ≤ (a : Int) := by omega
      have hn1 : (0 : Int) ≤ nI := by omega
      have hn2 : nI + (n1 : Int) ≤ 4611686018427387904 := by omega
      rw [← hnI] at hcells
      have c72 := hsC_num hcells hb
      obtain ⟨w1, hcp, hw1, hfr, hsz⟩ := copy_row (off := 8 + a) (n := 64 - a) (c := 64 - a) (c2 := c1) hcells (hI.out.2.1.frm hO.out.1 (fun ad e hp => hI.out.2.2.2 ad e (by simpa using hp))) hxl (by rw [hsC_size _ _ _ hb]; omega)
      obtain ⟨k, hk⟩ : ∃ k, k = Nat.min n1 (64 - a) := ⟨_, rfl⟩
      rw [← hk] at hcp hw1
      have hsl := sl64 g 8 a (by omega)
      have hkn : k ≤ n1 := by rw [hk]; exact Nat.min_le_left _ _
      have hk64 : a + k ≤ 64 := by have h_ : k ≤ 64 - a := by rw [hk]; exact Nat.min_le_right _ _
                                   omega
      have hk0 : 0 < k := by
        rcases Nat.lt_or_ge n1 (64 - a) with h_ | h_
        · rw [hk, show Nat.min n1 (64 - a) = n1 from Nat.min_eq_left (Nat.le_of_lt h_)]; omega
        · rw [hk, show Nat.min n1 (64 - a) = 64 - a from Nat.min_eq_right h_]; omega
      have hxk : x.take (64 - a) = x.take k := by
        rcases Nat.lt_or_ge n1 (64 - a) with h_ | h_
        · rw [hk, show Nat.min n1 (64 - a) = n1 from Nat.min_eq_left (Nat.le_of_lt h_), List.take_of_length_le (by omega), List.take_of_length_le (by omega)]
        · rw [hk, show Nat.min n1 (64 - a) = 64 - a from Nat.min_eq_right h_]
      have hxl2 : (x.take k).length = k := by rw [List.length_take]; omega
      obtain ⟨buf1, hbuf1⟩ : ∃ y, y = buf.take a ++ x.take k ++ buf.drop (a + k) := ⟨_, rfl⟩
      have hb1 : buf1.length = 64 := by rw [hbuf1]; simp [hb, hxl2]; omega
      rw [hxk, hsC_copy _ _ _ _ a k hb hk64 hxl2, ← hbuf1] at hw1
      have d72 := hsC_num hw1 hb1
      have hfz := frozen_row hw1
      obtain ⟨A2, hA2⟩ : ∃ A2, A2 = (if c1 = k then A1 else A1.map (·.add (k * 1))) := ⟨_, rfl⟩
      have hrs := slK8 (A := A1) (c := c1) hkn
      rw [← hA2] at hrs
      have hlen1 : n1 - k < n1 := by omega
      have hIn : Hid (d ++ x.take k ++ x.drop k = b ∧ Reads w w.heap.size 1 A2 (n1 - k) (bvs (x.drop k)) ∧ n1 - k ≤ c1 - k ∧ (∀ ad, A2 = some ad → ad.block ≠ g)) := by
        show _ ∧ _
        refine ⟨by rw [List.append_assoc, List.take_append_drop]; exact hI.out.1, ?_, by have := hI.out.2.2.1; omega, by rw [hA2]; exact map_block hI.out.2.2.2⟩
        have h_ := hI.out.2.1.cut (k := k) (cap := c1) hkn hI.out.2.2.1
        rw [← hA2, Nat.mul_one] at h_
        simpa [bvs, List.map_drop] using h_
      have hkI : (k : Int) ≤ (n1 : Int) := by omega
      have hkI0 : (0 : Int) ≤ (k : Int) := by omega
      have hakI : (a : Int) + (k : Int) ≤ 64 := by omega
      have P1 : Hid (w1.heap[g]? = some (.cells (hsC (stF K M) buf1 nI) 234 (0, 0)) ∧ Frm [g] w w1 ∧ KT w1 K ∧ nI + (k : Int) = ((M ++ x.take k).length : Int) ∧ M ++ x.take k = m ++ (d ++ x.take k)) := by
        show _ ∧ _
        exact ⟨hw1, hO.out.1.trans hfr, HKT.out.frm (hO.out.1.trans hfr) (by have := HG.out; simp; omega), by rw [List.length_append, hxl2, hnI]; omega, by rw [hM, List.append_assoc]⟩
      by_cases hs : a + k = 64
      · have ht64 : ((a : Int) + (k : Int) == 64) = true := by simp; omega
        have P2 : Hid (stF K (M ++ x.take k) = blockF K (stF K M) buf1 ∧ tailF (M ++ x.take k) = [] ∧ (M ++ x.take k).length % 64 = 0) := by
          show _ ∧ _
          rw [stF_full K M (x.take k) (by rw [hxl2, ← ha]; exact hs), tailF_full M (x.take k) (by rw [hxl2, ← ha]; exact hs)]
          refine ⟨?_, rfl, by rw [List.length_append, hxl2]; omega⟩
          rw [hbuf1, ha, ht, ← ha, hs, List.drop_of_length_le (by omega), List.append_nil]
        have HB1 := Lib.hid hb1
        clear ha hnI hM hk hxk hxl2 hbuf1 hb1 hb ht hA2 hI hxl hMl h0 hcells hw1 hfr hsz hO hs hk0
        have hall := slAll64 g 8
        go_wp2
        obtain ⟨w2, hw2⟩ : ∃ w2, w2 = w1.setCell ⟨g, 72, none⟩ (.int .u64 (nI + (k : Int))) := ⟨_, rfl⟩
        have P3 : Hid (w2.drew.heap[g]? = some (.cells (hsC (stF K M) buf1 (nI + (k : Int))) 234 (0, 0)) ∧ Frm [g] w w2.drew ∧ KT w2.drew K) := by
          show _ ∧ _
          have h1_ := heap_setCell_same w1 g 72 _ _ (.int .u64 (nI + (k : Int))) P1.out.1
          rw [hsC_put _ _ _ _ HB1.out, ← hw2] at h1_
          have h2_ : Frm [g] w w2.drew := by rw [hw2]; exact frm_drew (P1.out.2.1.trans (Frm.setCell w1 g 72 _))
          exact ⟨h1_, h2_, HKT.out.frm h2_ (by have := HG.out; simp; omega)⟩
        rw [← hw2]
        clear hw2 c72 d72 hfz
        refine wp_quiet_tail 7 (by kernel_rfl) (by kernel_rfl) ?_
        simp only [List.take_succ_cons, List.take_zero, List.drop_succ_cons, List.drop_zero]
        repeat (go_big_quiet_step (fail))
        refine wpQuiet_nil ?_
        change wpList _ _ _ _ _ w2.drew
        generalize w2.drew = w3 at P3 ⊢
        go_wp2_with (go_at_call 127; go_must (refine (block_any (some ⟨g, 8, none⟩) 64 g 234 (hsC (stF K M) buf1 (nI + (k : Int))) (stF K M) K buf1 w3 (hsC_st P3.out.1 HB1.out) P3.out.2.2 (hsC_rest P3.out.1 HB1.out) (by omega)).mono ?_; rintro e w4 ⟨rfl, hf4, hc4⟩; rw [hsC_over] at hc4; have H4 := Lib.hid (And.intro hf4 hc4); clear hf4 hc4))
        go_roundw
        case rel =>
          refine ⟨A2, n1 - k, c1 - k, d ++ x.take k, x.drop k, rfl, hIn, P3.out.2.1.trans H4.out.1, buf1, HB1.out, ?_, ?_⟩
          · rw [← P1.out.2.2.2.2, P2.out.2.2, P2.out.2.1]; rfl
          · rw [← P1.out.2.2.2.2, P2.out.1, ← P1.out.2.2.2.1]; exact H4.out.2
        case measure => simp only [lenV]; omega
      · have ht64 : ((a : Int) + (k : Int) == 64) = false := by simp; omega
        have hp := Hs.piece (m := M) hb ht hxl2 (by rw [← ha]; omega)
        have P2 : Hid (stF K (M ++ x.take k) = stF K M ∧ buf1.length = 64 ∧ buf1.take ((M ++ x.take k).length % 64) = tailF (M ++ x.take k)) := by
          show _ ∧ _
          rw [stF_same K M (x.take k) (by rw [hxl2, ← ha]; omega)]
          rw [hbuf1, ha]
          exact ⟨rfl, hp⟩
        have HB1 := Lib.hid hb1
        clear ha hnI hM hk hxk hxl2 hbuf1 hb1 hb ht hA2 hI hxl hMl h0 hcells hw1 hfr hsz hO hs hk0 hp
        go_wp2
        obtain ⟨w2, hw2⟩ : ∃ w2, w2 = w1.setCell ⟨g, 72, none⟩ (.int .u64 (nI + (k : Int))) := ⟨_, rfl⟩
        have P3 : Hid (w2.heap[g]? = some (.cells (hsC (stF K M) buf1 (nI + (k : Int))) 234 (0, 0)) ∧ Frm [g] w w2) := by
          show _ ∧ _
          have h1_ := heap_setCell_same w1 g 72 _ _ (.int .u64 (nI + (k : Int))) P1.out.1
          rw [hsC_put _ _ _ _ HB1.out, ← hw2] at h1_
          have h2_ : Frm [g] w w2 := by rw [hw2]; exact P1.out.2.1.trans (Frm.setCell w1 g 72 _)
          exact ⟨h1_, h2_⟩
        rw [← hw2]
        clear hw2 c72 d72 hfz
        go_roundw
        case rel =>
          refine ⟨A2, n1 - k, c1 - k, d ++ x.take k, x.drop k, rfl, hIn, P3.out.2, buf1, HB1.out, ?_, ?_⟩
          · rw [← P1.out.2.2.2.2]; exact P2.out.2.2
          · rw [← P1.out.2.2.2.2, P2.out.1, ← P1.out.2.2.2.1]; exact P3.out.1
        case measure => simp only [lenV]; omega
end Go.Proofs.YtbcpmnnlhdgbhaaGreatDoor

namespace Go.Proofs.YtbcpmnnlhdgbhaaGreatDoor
open Go.RowKit
theorem begin_any (w : World) : Calls Tryz.prog 126 #[] w fun e w' => e = .returned (.agg #[.int .u32 1779033703, .int .u32 3144134277, .int .u32 1013904242, .int .u32 2773480762, .int .u32 1359893119, .int .u32 2600822924, .int .u32 528734635, .int .u32 1541459225]) ∧ Below w.heap.size w w' := by
  go_enter Tryz.func126, Tryz.ntmps126
  go_wp2
  exact bodyPost_ret (v := .agg #[.int .u32 1779033703, .int .u32 3144134277, .int .u32 1013904242, .int .u32 2773480762, .int .u32 1359893119, .int .u32 2600822924, .int .u32 528734635, .int .u32 1541459225]) (by simp [results, Tryz.results126, go_sem]) rfl ⟨rfl, (Below.refl _ _).alloc (Nat.le_refl _) _⟩
theorem wpList_build_to {P : Program} {ops : Array Oper} {rest : List Oper} {o : Oper} {a : Act} {w : World} {Q : Exit → Act → World → Prop} (hg : o.guard = none) (t : TypeId) (parts : Array (Nat × Operand)) (ho : o.op = .build t parts)
    (vs : List (Nat × Value)) (hvs : parts.toList.map (fun p => (p.1, a.eval p.2)) = vs) (cells : Array Value) (hb : P.built t vs = some cells)
    (h : wpList P ops Q rest (a.put o.dst (.agg cells)) w) : wpList P ops Q (o :: rest) a w := by
  have hv : (parts.map fun (i, x) => (i, a.eval x)).toList = vs := by rw [← hvs]; simp
  refine wpList_build hg t parts ho (by rw [hv, hb]; rfl) ?_
  rw [hv, hb]
  exact h
def HNewPost (K : List Int) (w : World) (e : Ending) (w' : World) : Prop := ∃ g, e = .returned (.pointer (some ⟨g, 0, none⟩)) ∧ w.heap.size ≤ g ∧ Below w.heap.size w w' ∧ Hs w' g K []
theorem new_hs (K : List Int) (w : World) : Hs (w.alloc (.cells (hsC z8 (List.replicate 64 0) 0) 234)) w.heap.size K [] :=
  ⟨List.replicate 64 0, by simp, rfl, heap_alloc_new w _⟩
set_option maxRecDepth 100000 in
set_option maxHeartbeats 1000000 in
theorem HNew_any (K : List Int) (w : World) : Calls Tryz.prog 96 #[] w (HNewPost K w) := by
  obtain ⟨CS, hCS⟩ : ∃ CS : Array Value, CS = hsC z8 (List.replicate 64 0) 0 := ⟨_, rfl⟩
  have hbu : Hid (Tryz.prog.built 234 [(0, .agg #[.int .u32 1779033703, .int .u32 3144134277, .int .u32 1013904242, .int .u32 2773480762, .int .u32 1359893119, .int .u32 2600822924, .int .u32 528734635, .int .u32 1541459225])] = some CS) := by show _ = _; rw [hCS]; kernel_rfl
  have HCS := Lib.hid hCS
  clear hCS
  go_enter Tryz.func96, Tryz.ntmps96
  go_wp2_with (first
    | (go_at_call 126; go_must (refine (begin_any _).mono ?_; rintro e w1 ⟨rfl, hb⟩; have HB := Lib.hid hb; clear hb))
    | (refine wpList_build_to rfl _ _ rfl [(0, .agg #[.int .u32 1779033703, .int .u32 3144134277, .int .u32 1013904242, .int .u32 2773480762, .int .u32 1359893119, .int .u32 2600822924, .int .u32 528734635, .int .u32 1541459225])] rfl CS (by with_reducible exact hbu.out) ?_))
  go_ret
  refine ⟨w1.heap.size, rfl, HB.out.size, HB.out.alloc HB.out.size _, ?_⟩
  rw [HCS.out]
  exact new_hs K w1
end Go.Proofs.YtbcpmnnlhdgbhaaGreatDoor
