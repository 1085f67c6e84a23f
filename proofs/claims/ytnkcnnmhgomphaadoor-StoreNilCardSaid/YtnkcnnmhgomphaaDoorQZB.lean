/- The texts Z5 ZDoor of this work, merged by wip/merge.py. No conditions. -/
import Derived.Test.YtnkcnnmhgomphaaDoorQZA
import Derived.Test.YtnkcnnmhgomphaaDoorQG
import Derived.Lib.LaidU8
import Derived.Lib.LaidTab
import Derived.SevenTiedAt
namespace Go.Proofs.YtnkcnnmhgomphaaDoor
open Go.RowKit
theorem WB.fresh (w : World) (t : TypeId) (m : Nat) (cs : Array Value) (h : cs.size = m) : WB (w.alloc (.cells cs t)) w.heap.size t m [] := ⟨cs, heap_alloc_new w _, h, fun j hj => by simp at hj⟩
theorem below_setCell {B : Nat} {w wr : World} {g : Nat} (h : Below B w wr) (hB : B ≤ g) (k : Nat) (v : Value) : Below B w (wr.setCell ⟨g, k, none⟩ v) :=
  ⟨h.os, h.tape, h.output, by simpa [World.setCell] using h.size, fun j hj => (Below.heap_setCell wr _ _ _ (fun e => by have e : j = g := e; omega)).trans (h.block j hj)⟩
theorem reads_mid {w w' : World} {bb off n : Nat} {l : List UInt8} (h : Reads w w.heap.size 1 (some ⟨bb, off, none⟩) n (bvs l)) (hb : Below w.heap.size w w') (o m : Nat) (hm : o + m ≤ n) : Reads w' w.heap.size 1 (some ⟨bb, off + o, none⟩) m (bvs ((l.drop o).take m)) := by
  have hl : l.length = n := by have := h.1; rw [bvs_length] at this; omega
  refine ⟨by rw [bvs_length, List.length_take, List.length_drop]; omega, fun h0 => ?_⟩
  obtain ⟨ad, hA, hlt, hc⟩ := h.2 (by omega)
  cases hA
  refine ⟨_, rfl, hlt, fun j u hu => ?_⟩
  have hj : j < m := by
    have := (List.getElem?_eq_some_iff.1 hu).1
    rw [bvs_length, List.length_take] at this
    omega
  rw [add_none]
  refine (hb.cell (p := ⟨bb, off + o + j, none⟩) hlt).trans ?_
  have h1 := hc (o + j) u (by
    simp only [bvs, List.getElem?_map, List.getElem?_take, List.getElem?_drop, if_pos hj] at hu ⊢
    exact hu)
  rw [add_none, ← Nat.add_assoc] at h1
  exact h1
/-- The table of constants lies at block 0. -/
def KT (w : World) (K : List Int) : Prop := 0 < w.heap.size ∧ K.length = 64 ∧ ∀ j, j < 64 → w.cell? ⟨0, j, none⟩ = some (.int .u32 (K.getD j 0))
theorem KT.bel {w w' : World} {K : List Int} (h : KT w K) (hb : Below w.heap.size w w') : KT w' K :=
  ⟨Nat.lt_of_lt_of_le h.1 hb.size, h.2.1, fun j hj => (hb.cell (p := ⟨0, j, none⟩) h.1).trans (h.2.2 j hj)⟩
/-- The eight words of a hash, at the beginning of a block. -/
def ST (w : World) (g : Nat) (t : TypeId) (cur : Array Value) (R : R8) : Prop := w.heap[g]? = some (.cells cur t (0, 0)) ∧ 8 ≤ cur.size ∧ ∀ (j : Nat) (v : Int), R.l[j]? = some v → cur[j]? = some (Value.int .u32 v)
theorem ST.bel {w w' : World} {g : Nat} {t : TypeId} {cur : Array Value} {R : R8} (h : ST w g t cur R) (hb : Below w.heap.size w w') : ST w' g t cur R := ⟨(hb.block g (lt_heap h.1)).trans h.1, h.2⟩
theorem ST.cell {w : World} {g : Nat} {t : TypeId} {cur : Array Value} {R : R8} (h : ST w g t cur R) (j : Nat) (v : Int) (hj : R.l[j]? = some v) : w.cell? ⟨g, j, none⟩ = some (.int .u32 v) := by
  rw [cell_of_row w g j _ _ _ h.1]; exact h.2.2 j v hj
theorem below_drew {B : Nat} {w w' : World} (h : Below B w w') : Below B w w'.drew := ⟨h.os, h.tape, h.output, h.size, h.block⟩
theorem wb_drew {w : World} {g m : Nat} {t : TypeId} {L : List Int} (h : WB w g t m L) : WB w.drew g t m L := h
def BlkPost (g : Nat) (t : TypeId) (cur : Array Value) (Y : R8) (w : World) (e : Ending) (w' : World) : Prop := e = .returned (.tuple #[]) ∧ Frm [g] w w' ∧ w'.heap[g]? = some (.cells (over cur (w32s Y.l)) t (0, 0))
theorem add_get {R X : R8} {n : Nat} {r x : Int} (h1 : R.l[n]? = some r) (h2 : X.l[n]? = some x) : (addR R X).l[n]? = some ((r + x) % 4294967296) := by
  match n, h1, h2 with
  | 0, h1, h2 => simp only [R8.l, List.getElem?_cons_zero, Option.some.injEq] at h1 h2; subst h1 h2; rfl
  | 1, h1, h2 => simp [R8.l] at h1 h2; subst h1 h2; rfl
  | 2, h1, h2 => simp [R8.l] at h1 h2; subst h1 h2; rfl
  | 3, h1, h2 => simp [R8.l] at h1 h2; subst h1 h2; rfl
  | 4, h1, h2 => simp [R8.l] at h1 h2; subst h1 h2; rfl
  | 5, h1, h2 => simp [R8.l] at h1 h2; subst h1 h2; rfl
  | 6, h1, h2 => simp [R8.l] at h1 h2; subst h1 h2; rfl
  | 7, h1, h2 => simp [R8.l] at h1 h2; subst h1 h2; rfl
  | n + 8, h1, _ => simp [R8.l] at h1
theorem l_len (R : R8) : R.l.length = 8 := rfl
theorem frm_drew {ps : List Nat} {w w' : World} (h : Frm ps w w') : Frm ps w w'.drew := ⟨h.os, h.tape, h.output, h.size, h.block⟩
theorem frm_below {g : Nat} {w w' : World} (h : Below w.heap.size w w') : Frm [g] w w' := Frm.of_below h
theorem run_index8 (xa xc xd xe xf xg xi xj : Int) (k : Nat) (x : Int) (h : (R8.mk xa xc xd xe xf xg xi xj).l[k]? = some x) (w : World) :
    (Instr.index 118 (.agg #[.int .u32 xa, .int .u32 xc, .int .u32 xd, .int .u32 xe, .int .u32 xf, .int .u32 xg, .int .u32 xi, .int .u32 xj]) (.int .i64 (k : Int))).run Tryd.prog w = .ok (.int .u32 x) w := by
  match k, h with
  | 0, h => simp [R8.l] at h; subst h; change _ = _; kernel_rfl
  | 1, h => simp [R8.l] at h; subst h; change _ = _; kernel_rfl
  | 2, h => simp [R8.l] at h; subst h; change _ = _; kernel_rfl
  | 3, h => simp [R8.l] at h; subst h; change _ = _; kernel_rfl
  | 4, h => simp [R8.l] at h; subst h; change _ = _; kernel_rfl
  | 5, h => simp [R8.l] at h; subst h; change _ = _; kernel_rfl
  | 6, h => simp [R8.l] at h; subst h; change _ = _; kernel_rfl
  | 7, h => simp [R8.l] at h; subst h; change _ = _; kernel_rfl
  | n + 8, h => simp [R8.l] at h
set_option maxRecDepth 100000 in
set_option maxHeartbeats 2000000 in
theorem block_any (A : Option Addr) (c : Nat) (g : Nat) (t : TypeId) (cur : Array Value) (R : R8) (K : List Int) (l : List UInt8) (w : World) (hst : ST w g t cur R) (hkt : KT w K) (hr : Reads w w.heap.size 1 A 64 (bvs l)) (hc : 64 ≤ c) :
    Calls Tryd.prog 67 #[.pointer (some ⟨g, 0, none⟩), .slice A 64 c] w (BlkPost g t cur (blockF K R l) w) := by
  have hcI : (64 : Int) ≤ (c : Int) := by omega
  have HR := Lib.hid hr
  have HC := Lib.hid hc
  have HST := Lib.hid hst
  have HKT := Lib.hid hkt
  clear hr hst hkt
  obtain ⟨zs, hzs⟩ : ∃ zs : Array Value, zs = Array.replicate 64 (.int .u32 0) := ⟨_, rfl⟩
  have hz : ∀ w, (zeroValue 131).run Tryd.prog w = .ok (.agg zs) w := fun w => by rw [hzs]; kernel_rfl
  have hzz : Hid (zs.size = 64) := by show _ = _; rw [hzs]; rfl
  clear hzs
  go_enter Tryd.func67, Tryd.ntmps67
  go_wp2
  obtain ⟨w1, hw1⟩ : ∃ w1, w1 = w.alloc (.cells zs 131) := ⟨_, rfl⟩
  obtain ⟨gw, hgw⟩ : ∃ gw, gw = w.heap.size := ⟨_, rfl⟩
  have B1 : Hid (Below w.heap.size w w1) := by show Below _ _ _; rw [hw1]; exact (Below.refl _ w).alloc (Nat.le_refl _) _
  have W1 : Hid (WB w1 gw 131 64 []) := by show WB _ _ _ _ _; rw [hw1, hgw]; exact WB.fresh _ _ _ _ hzz.out
  rw [← hw1, ← hgw]
  have GE : Hid (w.heap.size ≤ gw) := by show _ ≤ _; rw [hgw]; exact Nat.le_refl _
  clear hw1 hgw hz hzz
  obtain ⟨bb, off, hA, hbb, _⟩ := HR.out.bytes (by omega)
  subst hA
  go_loopw [26] (fun i wr => ∃ k : Nat, k ≤ 16 ∧ i = .int .i64 (k : Int) ∧ Hid (Below w.heap.size w wr ∧ WB wr gw 131 64 (schedL l k))) (fun i _ => 16 - (intOf i).toNat)
  case atStart => exact ⟨0, Nat.zero_le _, rfl, B1.out, W1.out⟩
  case round =>
    obtain ⟨k, hk, rfl, hO⟩ := hrel
    by_cases hlt : k < 16
    · have hlt' : (k : Int) < 16 := by omega
      have hk0 : (0 : Int) ≤ (k : Int) := by omega
      obtain ⟨v0, cc⟩ := hO.out.2.any k (by omega)
      have hfz := hO.out.2.unfrozen
      have HO1 := Lib.hid hO.out.1
      have HO2 := Lib.hid hO.out.2
      have HK := Lib.hid hlt
      clear hO
      have SN : Hid (schedL l (k + 1) = schedL l k ++ [IntKind.u32.wrap (wordI ((l.drop (4 * k)).take 4))]) := by show _ = _; rw [schedL, if_pos hlt]
      go_wp2_with (go_at_call 75; go_must (refine (word_any _ 4 _ ((l.drop (4 * k)).take 4) wr w.heap.size (reads_mid HR.out HO1.out (4 * k) 4 (by have := HK.out; omega)) (by omega)).mono ?_; rintro e w2 ⟨rfl, rfl⟩))
      go_roundw
      case rel => exact ⟨k + 1, HK.out, by go_num, below_setCell HO1.out GE.out _ _, by rw [SN.out]; exact HO2.out.put k (schedL_len l k).symm (by have := HK.out; omega) _⟩
      case measure => simp [intOf]; omega
    · have hk16 : k = 16 := by omega
      have hd : decide ((k : Int) < 16) = false := by simp; omega
      have HO : Hid (Below w.heap.size w wr ∧ WB wr gw 131 64 (schedL l 16)) := by show _ ∧ _; rw [← hk16]; exact hO.out
      clear hO hlt hk hk16
      go_wp2
      go_loopw [6] (fun i wr => ∃ j : Nat, j ≤ 48 ∧ i = .int .i64 ((j : Int) + 16) ∧ Hid (Below w.heap.size w wr ∧ WB wr gw 131 64 (schedL l (j + 16)))) (fun i _ => 64 - (intOf i).toNat)
      case atStart => exact ⟨0, Nat.zero_le _, by go_num, HO.out⟩
      clear HO
      case round =>
        obtain ⟨j, hj, rfl, hO⟩ := hrel
        by_cases hlt : j < 48
        · have hlt' : (j : Int) + 16 < 64 := by omega
          have hj0 : (0 : Int) ≤ (j : Int) := by omega
          obtain ⟨L, hL⟩ : ∃ L, L = schedL l (j + 16) := ⟨_, rfl⟩
          have hLl : L.length = j + 16 := by rw [hL, schedL_len]
          rw [← hL] at hO
          have HO1 := Lib.hid hO.out.1
          have HO2 := Lib.hid hO.out.2
          have HLL := Lib.hid hLl
          have HL := Lib.hid hL
          have HJ := Lib.hid hlt
          obtain ⟨v0, cc⟩ := hO.out.2.any (j + 16) (by omega)
          have hfz := hO.out.2.unfrozen
          obtain ⟨x2, hx2⟩ : ∃ x, x = L.getD (j + 14) 0 := ⟨_, rfl⟩
          obtain ⟨x15, hx15⟩ : ∃ x, x = L.getD (j + 1) 0 := ⟨_, rfl⟩
          obtain ⟨x7, hx7⟩ : ∃ x, x = L.getD (j + 9) 0 := ⟨_, rfl⟩
          obtain ⟨x16, hx16⟩ : ∃ x, x = L.getD j 0 := ⟨_, rfl⟩
          have c2 := hO.out.2.cell (j + 14) (by omega)
          have c15 := hO.out.2.cell (j + 1) (by omega)
          have c7 := hO.out.2.cell (j + 9) (by omega)
          have c16 := hO.out.2.cell j (by omega)
          rw [← hx2] at c2
          rw [← hx15] at c15
          rw [← hx7] at c7
          rw [← hx16] at c16
          have b2 : (0 : Int) ≤ (j : Int) + 14 := by omega
          have SN : Hid (schedL l (j + 17) = L ++ [(sig1 x2 + x7 + sig0 x15 + x16) % 4294967296]) := by
            show _ = _
            rw [schedL, if_neg (by omega), ← hL, hx2, hx15, hx7, hx16, show j + 16 - 2 = j + 14 from by omega, show j + 16 - 15 = j + 1 from by omega, show j + 16 - 7 = j + 9 from by omega, show j + 16 - 16 = j from by omega]
          clear hL hLl hO hx2 hx15 hx7 hx16
          have GL : Hid (gw < wr.heap.size) := by obtain ⟨_, h_, _⟩ := HO2.out; exact lt_heap h_
          go_wp2
          go_quiet (fail)
          obtain ⟨w5, hw5⟩ : ∃ w5, w5 = wr.drewN nq := ⟨_, rfl⟩
          have HB5 : Hid (Below wr.heap.size wr w5) := by show Below _ _ _; rw [hw5]; exact ⟨rfl, rfl, rfl, Nat.le_refl _, fun _ _ => rfl⟩
          rw [← hw5]
          clear hw5
          have T0 : Hid True := trivial
          go_wp2_with (first
            | (go_at_call 76; have hx_ := T0; go_must (refine (rot17 _ _).mono ?_; rintro e w6 ⟨rfl, h6⟩; have h6 := h6.symm; subst h6; have T1 := hx_; clear T0 hx_))
            | (go_at_call 76; have hx_ := T1; go_must (refine (rot19 _ _).mono ?_; rintro e w6 ⟨rfl, h6⟩; have h6 := h6.symm; subst h6; have T2 := hx_; clear T1 hx_))
            | (go_at_call 76; have hx_ := T2; go_must (refine (rot7 _ _).mono ?_; rintro e w6 ⟨rfl, h6⟩; have h6 := h6.symm; subst h6; have T3 := hx_; clear T2 hx_))
            | (go_at_call 76; have hx_ := T3; go_must (refine (rot18 _ _).mono ?_; rintro e w6 ⟨rfl, h6⟩; have h6 := h6.symm; subst h6; have T4 := hx_; clear T3 hx_)))
          obtain ⟨s1, hs1⟩ : ∃ s1, sig1 x2 = s1 := ⟨_, rfl⟩
          obtain ⟨s0, hs0⟩ : ∃ s0, sig0 x15 = s0 := ⟨_, rfl⟩
          have HS1 := Lib.hid hs1
          have HS0 := Lib.hid hs0
          unfold sig1 at hs1
          unfold sig0 at hs0
          rw [hs1, hs0]
          clear hs1 hs0 HL hlt hj
          have d7 := (HB5.out.cell (p := ⟨gw, j + 9, none⟩) GL.out).trans c7
          have d16 := (HB5.out.cell (p := ⟨gw, j, none⟩) GL.out).trans c16
          clear c7 c16 c2 c15 cc hfz
          have WW : Hid (WB w5 gw 131 64 L) := HO2.out.bel HB5.out
          have BW := Lib.hid (HO1.out.trans (HB5.out.mono HO1.out.size))
          obtain ⟨v9, cc9⟩ := WW.out.any (j + 16) (by have := HJ.out; omega)
          have hfz9 := WW.out.unfrozen
          refine wp_quiet_tail 15 (by kernel_rfl) (by kernel_rfl) ?_
          simp only [List.take_succ_cons, List.take_zero, List.drop_succ_cons, List.drop_zero]
          repeat (go_big_quiet_step (fail))
          refine wpQuiet_nil ?_
          go_wp2
          go_roundw
          case rel => exact ⟨j + 1, HJ.out, by go_num, below_drew (below_setCell BW.out GE.out _ _), by
            rw [show j + 1 + 16 = j + 17 from by omega, SN.out, HS1.out, HS0.out]
            exact WW.out.put (j + 16) HLL.out.symm (by have := HJ.out; omega) _⟩
          case measure => simp [intOf]; omega
        · have hj48 : j = 48 := by omega
          have hd : decide ((j : Int) + 16 < 64) = false := by simp; omega
          have HO1 := Lib.hid hO.out.1
          have HO2 : Hid (WB wr gw 131 64 (schedL l 64)) := by show WB _ _ _ _ _; have := hO.out.2; rw [hj48] at this; exact this
          clear hO hlt hj hj48
          go_wp2
          have sv := HST.out.bel (HO1.out.mono (Nat.le_refl _))
          have f0 := sv.cell 0 _ rfl
          have f1 := sv.cell 1 _ rfl
          have f2 := sv.cell 2 _ rfl
          have f3 := sv.cell 3 _ rfl
          have f4 := sv.cell 4 _ rfl
          have f5 := sv.cell 5 _ rfl
          have f6 := sv.cell 6 _ rfl
          have f7 := sv.cell 7 _ rfl
          clear sv
          go_quiet (fail)
          obtain ⟨w5, hw5⟩ : ∃ w5, w5 = wr.drewN nq := ⟨_, rfl⟩
          have HB5 : Hid (Below w.heap.size w w5) := by show Below _ _ _; rw [hw5]; exact HO1.out.trans ⟨rfl, rfl, rfl, Nat.le_refl _, fun _ _ => rfl⟩
          obtain ⟨W, hW⟩ : ∃ W, W = schedL l 64 := ⟨_, rfl⟩
          have HW5 : Hid (WB w5 gw 131 64 W) := by show WB _ _ _ _ _; rw [hw5, hW]; exact HO2.out
          have HWl : Hid (W.length = 64) := by show _ = _; rw [hW, schedL_len]
          rw [← hw5]
          clear hw5 HO1 HO2 f0 f1 f2 f3 f4 f5 f6 f7
          go_wp2
          go_loopw [11, 12, 13, 14, 15, 16, 17, 18, 116] (fun a c d e f g i j t wr => ∃ (k : Nat) (X : R8), k ≤ 64 ∧ t = .int .i64 (k : Int) ∧ a = .int .u32 X.a ∧ c = .int .u32 X.c ∧ d = .int .u32 X.d ∧ e = .int .u32 X.e ∧ f = .int .u32 X.f ∧ g = .int .u32 X.g ∧ i = .int .u32 X.i ∧ j = .int .u32 X.j ∧ Hid (X = rnds K W R k ∧ Below w.heap.size w wr ∧ WB wr gw 131 64 W)) (fun _ _ _ _ _ _ _ _ t _ => 64 - (intOf t).toNat)
          case atStart => exact ⟨0, R, Nat.zero_le _, rfl, rfl, rfl, rfl, rfl, rfl, rfl, rfl, rfl, rfl, HB5.out, HW5.out⟩
          case round =>
            obtain ⟨k, X, hk, rfl, rfl, rfl, rfl, rfl, rfl, rfl, rfl, rfl, hO⟩ := hrel
            obtain ⟨xa, xc, xd, xe, xf, xg, xi, xj⟩ := X
            have HX := Lib.hid hO.out.1
            have HO1 := Lib.hid hO.out.2.1
            have HO2 := Lib.hid hO.out.2.2
            clear hO
            by_cases hlt : k < 64
            · have hlt' : (k : Int) < 64 := by omega
              have hk0 : (0 : Int) ≤ (k : Int) := by omega
              have HK := Lib.hid hlt
              obtain ⟨kv, hkv⟩ : ∃ x, x = K.getD k 0 := ⟨_, rfl⟩
              obtain ⟨wv, hwv⟩ : ∃ x, x = W.getD k 0 := ⟨_, rfl⟩
              have ck := (HO1.out.cell (p := ⟨0, k, none⟩) HKT.out.1).trans (HKT.out.2.2 k hlt)
              have cw := HO2.out.cell k (by rw [HWl.out]; exact hlt)
              rw [← hkv] at ck
              rw [← hwv] at cw
              have HKV := Lib.hid hkv
              have HWV := Lib.hid hwv
              clear hkv hwv hlt
              have T0 : Hid True := trivial
              go_wp2_with (first
                | (go_at_call 76; have hx_ := T0; go_must (refine (rot6 _ _).mono ?_; rintro e w6 ⟨rfl, h6⟩; have h6 := h6.symm; subst h6; have T1 := hx_; clear T0 hx_))
                | (go_at_call 76; have hx_ := T1; go_must (refine (rot11 _ _).mono ?_; rintro e w6 ⟨rfl, h6⟩; have h6 := h6.symm; subst h6; have T2 := hx_; clear T1 hx_))
                | (go_at_call 76; have hx_ := T2; go_must (refine (rot25 _ _).mono ?_; rintro e w6 ⟨rfl, h6⟩; have h6 := h6.symm; subst h6; have T3 := hx_; clear T2 hx_)))
              obtain ⟨s1, hs1⟩ : ∃ s1, big1 xf = s1 := ⟨_, rfl⟩
              have HS1 := Lib.hid hs1
              unfold big1 at hs1
              rw [hs1]
              clear hs1
              go_quiet (fail)
              obtain ⟨t1, ht1⟩ : ∃ t1, t1F xj s1 xf xg xi kv wv = t1 := ⟨_, rfl⟩
              have HT1 := Lib.hid ht1
              unfold t1F at ht1
              rw [ht1]
              clear ht1
              obtain ⟨w7, hw7⟩ : ∃ w7, w7 = wr.drewN nq := ⟨_, rfl⟩
              have HB7 : Hid (Below w.heap.size w w7) := by show Below _ _ _; rw [hw7]; exact HO1.out.trans ⟨rfl, rfl, rfl, Nat.le_refl _, fun _ _ => rfl⟩
              have HW7 : Hid (WB w7 gw 131 64 W) := by show WB _ _ _ _ _; rw [hw7]; exact HO2.out
              rw [← hw7]
              clear hw7 ck cw HO1 HO2
              go_wp2_with (first
                | (go_at_call 76; have hx_ := T3; go_must (refine (rot2 _ _).mono ?_; rintro e w6 ⟨rfl, h6⟩; have h6 := h6.symm; subst h6; have T4 := hx_; clear T3 hx_))
                | (go_at_call 76; have hx_ := T4; go_must (refine (rot13 _ _).mono ?_; rintro e w6 ⟨rfl, h6⟩; have h6 := h6.symm; subst h6; have T5 := hx_; clear T4 hx_))
                | (go_at_call 76; have hx_ := T5; go_must (refine (rot22 _ _).mono ?_; rintro e w6 ⟨rfl, h6⟩; have h6 := h6.symm; subst h6; have T6 := hx_; clear T5 hx_)))
              go_roundw
              case rel =>
                have e1 := HT1.out
                have e2 := HS1.out
                subst e2
                subst e1
                exact ⟨k + 1, rnd ⟨xa, xc, xd, xe, xf, xg, xi, xj⟩ kv wv, HK.out, by go_num, rfl, rfl, rfl, rfl, rfl, rfl, rfl, rfl, by rw [rnds, ← HX.out, HKV.out, HWV.out], HB7.out, HW7.out⟩
              case measure => simp [intOf]; omega
            · have hk64 : k = 64 := by omega
              have hd' : decide ((k : Int) < 64) = false := by simp; omega
              have HX' : Hid (R8.mk xa xc xd xe xf xg xi xj = rnds K (schedL l 64) R 64) := by show _ = _; rw [HX.out, hk64, hW]
              clear hlt hk hk64 HX HO2 HW5 HWl hW
              go_wp2
              obtain ⟨X, hX⟩ : ∃ X, X = R8.mk xa xc xd xe xf xg xi xj := ⟨_, rfl⟩
              have HXX := Lib.hid hX
              clear hX
              have W8 : Hid (wr.heap[g]? = some (.cells (over cur (w32s ((addR R X).l.take 0))) t (0, 0))) := by show _ = _; rw [List.take_zero, show w32s [] = [] from rfl, over_nil]; exact (HST.out.bel HO1.out).1
              go_loopw [190] (fun i wr => ∃ n : Nat, n ≤ 8 ∧ i = .int .i64 (n : Int) ∧ Hid (Frm [g] w wr ∧ wr.heap[g]? = some (.cells (over cur (w32s ((addR R X).l.take n))) t (0, 0)))) (fun i _ => 8 - (intOf i).toNat)
              case atStart => exact ⟨0, Nat.zero_le _, rfl, frm_below HO1.out, W8.out⟩
              clear W8 HO1
              case round =>
                obtain ⟨n, hn, rfl, hO⟩ := hrel
                by_cases hlt : n < 8
                · have hlt' : (n : Int) < 8 := by omega
                  have hn0 : (0 : Int) ≤ (n : Int) := by omega
                  obtain ⟨r, hr⟩ : ∃ r, R.l[n]? = some r := ⟨R.l[n]'(by rw [l_len]; exact hlt), List.getElem?_eq_getElem _⟩
                  obtain ⟨x, hx⟩ : ∃ x, X.l[n]? = some x := ⟨X.l[n]'(by rw [l_len]; exact hlt), List.getElem?_eq_getElem _⟩
                  have hidx := run_index8 xa xc xd xe xf xg xi xj n x (by rw [← HXX.out]; exact hx)
                  have hlen : (w32s ((addR R X).l.take n)).length = n := by simp only [w32s, List.length_map, List.length_take, l_len]; omega
                  have cc : wr.cell? ⟨g, n, none⟩ = some (.int .u32 r) := by
                    rw [cell_of_row _ g n _ _ _ hO.out.2, over_get _ _ _ (by omega)]
                    exact HST.out.2.2 n r hr
                  have hfz := frozen_row hO.out.2
                  have SN : Hid (w32s ((addR R X).l.take (n + 1)) = w32s ((addR R X).l.take n) ++ [.int .u32 ((r + x) % 4294967296)]) := by
                    show _ = _
                    have h1 := add_get hr hx
                    rw [List.take_add_one, h1]
                    simp [w32s]
                  have HO := Lib.hid hO.out
                  have HL := Lib.hid hlen
                  have HN := Lib.hid hlt
                  clear hO hr hx hlen hlt hn
                  go_wp2
                  refine wp_quiet_tail 9 (by kernel_rfl) (by kernel_rfl) ?_
                  simp only [List.take_succ_cons, List.take_zero, List.drop_succ_cons, List.drop_zero]
                  repeat (go_big_quiet_step (fail))
                  refine wpQuiet_nil ?_
                  go_wp2
                  go_roundw
                  case rel =>
                    refine ⟨n + 1, HN.out, by go_num, frm_drew (HO.out.1.trans (Frm.setCell wr g n (.int .u32 ((r + x) % 4294967296)))), ?_⟩
                    have h2 := over_set cur (w32s ((addR R X).l.take n)) (.int .u32 ((r + x) % 4294967296)) (by rw [HL.out]; exact Nat.lt_of_lt_of_le HN.out HST.out.2.1)
                    rw [SN.out, ← h2, HL.out]
                    exact heap_setCell_same wr g n _ t _ HO.out.2
                  case measure => simp [intOf]; omega
                · have hn8 : n = 8 := by omega
                  have hd9 : decide ((n : Int) < 8) = false := by simp; omega
                  have HO : Hid (Frm [g] w wr ∧ wr.heap[g]? = some (.cells (over cur (w32s (blockF K R l).l)) t (0, 0))) := by
                    show _ ∧ _
                    refine ⟨hO.out.1, ?_⟩
                    have h3 := hO.out.2
                    rw [hn8, List.take_of_length_le (by rw [l_len]; omega), HXX.out, HX'.out] at h3
                    exact h3
                  clear hO hlt hn hn8
                  go_wp2
                  go_end0
                  exact ⟨rfl, HO.out.1, HO.out.2⟩
end Go.Proofs.YtnkcnnmhgomphaaDoor

namespace Go.Proofs.YtnkcnnmhgomphaaDoor
open Go.RowKit
theorem gk : Tryd.prog.globalNamed "beacon/sha2.k256" = some 0 := by kernel_rfl
theorem gkt : (Tryd.prog.globals[0]?).map (·.type) = some 131 := by kernel_rfl
theorem cellsU32 : Tryd.prog.cellsOf 100 = 1 := by kernel_rfl
theorem cells64 : Tryd.prog.cellsOf 131 = 64 := by kernel_rfl
/-- The numbers of the table. -/
def litOf : DataW Unit → Int
  | .lit (.int _ n) => n
  | _ => 0
def kOf : DataW Unit → List Int
  | .agg l => l.map litOf
  | _ => []
theorem kt_of {W : World} {l : List (String × DataW Unit)} {d : DataW Unit} (hp : (l.all fun x => x.2.handleName?.isNone) = true) (hm : ("beacon/sha2.k256", d) ∈ l) (hd : d = Lib.tabData .u32 (kOf d)) (hlen : (kOf d).length = 64) (h : laidMetH Tryd.prog l W) : KT W (kOf d) := by
  rw [MakeChecks.laidMetH_plain _ _ _ hp] at h
  obtain ⟨K, hK⟩ : ∃ K, kOf d = K := ⟨_, rfl⟩
  rw [hK] at hd hlen ⊢
  subst hd
  clear hK
  obtain ⟨g', t', cs, fuel, p, hg', ht', hvar, hdd⟩ := Lib.laidMet.reads h hm
  obtain rfl := Option.some.inj (gk.symm.trans hg')
  obtain rfl := Option.some.inj (gkt.symm.trans ht')
  have hcs := Lib.cells_of_tab Tryd.underlying131 Tryd.underlying100 cellsU32 cells64 hdd
  unfold World.var? at hvar
  rw [gk] at hvar
  simp only [Option.bind_some] at hvar
  have hlt : 0 < W.heap.size := by
    rcases Nat.lt_or_ge 0 W.heap.size with h' | h'
    · exact h'
    · rw [Array.getElem?_eq_none h'] at hvar; cases hvar
  refine ⟨hlt, hlen, fun j hj => ?_⟩
  cases hh : W.heap[0]? with
  | none => rw [hh] at hvar; cases hvar
  | some o =>
    rw [hh] at hvar
    cases o with
    | cells xs t s =>
      simp only [Option.some.injEq] at hvar
      rw [cell_of_row W 0 j _ _ _ hh, hvar, ← Array.getElem?_toList, hcs]
      have hj' : j < K.length := by omega
      simp [hj']
    | _ => cases hvar
end Go.Proofs.YtnkcnnmhgomphaaDoor
