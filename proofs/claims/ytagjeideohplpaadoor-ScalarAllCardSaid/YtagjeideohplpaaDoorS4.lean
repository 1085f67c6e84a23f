/- The walk of shift. No conditions. -/
import Derived.Test.YtagjeideohplpaaDoorS4a
import Derived.Shelf.Bits.Mul64
import Derived.Deep.QuietTactic
namespace Go.Proofs.YtagjeideohplpaaDoor
open Go.RowKit Go.Lib
set_option maxRecDepth 100000 in
set_option maxHeartbeats 4000000 in
theorem Mul64_any (x y : Nat) (hx : x < 18446744073709551616) (hy : y < 18446744073709551616) (w : World) :
    Calls Tryd.prog 20 #[.int .u64 (x : Int), .int .u64 (y : Int)] w fun e w' => e = .returned (.tuple #[.int .u64 ((x * y / 18446744073709551616 : Nat) : Int), .int .u64 ((x * y % 18446744073709551616 : Nat) : Int)]) ∧ w' = w := by
  obtain ⟨bd, bt, bw, hhi⟩ := Lib.mul64_hi x y hx hy
  have ba := Lib.half_mul_le (a := x / 4294967296) (b := y / 4294967296) (by omega) (by omega)
  have bb := Lib.half_mul_le (a := x / 4294967296) (b := y % 4294967296) (by omega) (by omega)
  have bc := Lib.half_mul_le (a := x % 4294967296) (b := y / 4294967296) (by omega) (by omega)
  have ba' : x / 4294967296 * (y / 4294967296) < 18446744073709551616 := by omega
  have bb' : x / 4294967296 * (y % 4294967296) < 18446744073709551616 := by omega
  have bc' : x % 4294967296 * (y / 4294967296) < 18446744073709551616 := by omega
  have bh1 : x / 4294967296 * (y / 4294967296) + (x / 4294967296 * (y % 4294967296) + x % 4294967296 * (y % 4294967296) / 4294967296) / 4294967296 < 18446744073709551616 := by omega
  have bh : x / 4294967296 * (y / 4294967296) + (x / 4294967296 * (y % 4294967296) + x % 4294967296 * (y % 4294967296) / 4294967296) / 4294967296 + ((x / 4294967296 * (y % 4294967296) + x % 4294967296 * (y % 4294967296) / 4294967296) % 4294967296 + x % 4294967296 * (y / 4294967296)) / 4294967296 < 18446744073709551616 := by
    rw [hhi]
    have h1 : x * y ≤ 18446744073709551615 * 18446744073709551615 := Nat.mul_le_mul (by omega) (by omega)
    omega
  go_enter Tryd.func20, Tryd.ntmps20
  go_wp2
  simp only [Mul64.maskN x hx, Mul64.maskN y hy, Mul64.divN, Mul64.mulN, Mul64.addN, Mul64.wrapN _ bd, Mul64.wrapN _ bb', Mul64.wrapN _ bt, Mul64.maskN _ bt, Mul64.wrapN _ bc', Mul64.wrapN _ bw, Mul64.wrapN _ ba', Mul64.wrapN _ bh1, Mul64.wrapN _ bh, Mul64.wrapM (x * y)]
  rw [hhi]
  go_ret2
  exact ⟨rfl, rfl⟩

theorem or16 {c d : Nat} (hc : c < 18446744073709551616) : bits BinOp.or IntKind.u64 ((c : Int) / 1152921504606846976) (IntKind.u64.wrap ((d : Int) * 16)) = ((c / 1152921504606846976 + d % 1152921504606846976 * 16 : Nat) : Int) := by
  have h1 : (c : Int) / 1152921504606846976 = ((c / 1152921504606846976 : Nat) : Int) := by omega
  have h2 : IntKind.u64.wrap ((d : Int) * 16) = ((d % 1152921504606846976 * 16 : Nat) : Int) := by rw [IntKind.wrap_u64]; omega
  rw [h1, h2, bits_or_u64_nat _ _ (by omega) (by omega)]
  congr 1
  have h3 : c / 1152921504606846976 < 2 ^ 4 := by omega
  have h4 := Nat.shiftLeft_add_eq_or_of_lt h3 (d % 1152921504606846976)
  rw [Nat.shiftLeft_eq] at h4
  rw [Nat.or_comm, Nat.add_comm, show d % 1152921504606846976 * 16 = d % 1152921504606846976 * 2 ^ 4 from rfl]
  exact h4.symm
theorem and60 {c : Nat} (hc : c < 18446744073709551616) : bits BinOp.and IntKind.u64 (c : Int) 1152921504606846975 = ((c % 1152921504606846976 : Nat) : Int) := by
  have h := bits_and_u64_nat c 1152921504606846975 hc (by omega)
  have e : c &&& 1152921504606846975 = c % 1152921504606846976 := Nat.and_two_pow_sub_one_eq_mod c 60
  rw [e] at h
  exact h
/-- What Mul64 gives. -/
theorem mul_w (x y : Nat) (hx : x < 18446744073709551616) (hy : y < 18446744073709551616) {X Y : Int} (hX : X = (x : Int)) (hY : Y = (y : Int)) : ∃ h l : Nat, (∀ w, Calls Tryd.prog 20 #[.int .u64 X, .int .u64 Y] w fun e w' => e = .returned (.tuple #[.int .u64 (h : Int), .int .u64 (l : Int)]) ∧ w' = w) ∧ l + 18446744073709551616 * h = x * y ∧ l < 18446744073709551616 ∧ h < 18446744073709551616 := by
  subst hX hY
  refine ⟨_, _, fun w => Mul64_any x y hx hy w, Nat.mod_add_div _ _, Nat.mod_lt _ (by decide), ?_⟩
  have h1 : x * y ≤ 18446744073709551615 * 18446744073709551615 := Nat.mul_le_mul (by omega) (by omega)
  omega
theorem z_lt : 0 < 18446744073709551616 := by decide
/-- The blocks of shift: the answer's place, the lower part, what is taken off. -/
def Sh (w wr : World) (low p : W4) : Prop := Below w.heap.size w wr ∧ wr.heap[w.heap.size + 1]? = some (.cells (W4.mk 0 0 0 0).cs 35 (0, 0)) ∧ wr.heap[w.heap.size + 1 + 1]? = some (.cells low.cs 35 (0, 0)) ∧ wr.heap[w.heap.size + 1 + 1 + 1]? = some (.cells p.cs 35 (0, 0))
theorem Sh.below {w wr w' : World} {low p : W4} (h : Sh w wr low p) (hb : Below wr.heap.size wr w') : Sh w w' low p := by
  obtain ⟨h0, h1, h2, h3⟩ := h
  exact ⟨h0.trans (hb.mono h0.size), (hb.block _ (lt_of_heap h1)).trans h1, (hb.block _ (lt_of_heap h2)).trans h2, (hb.block _ (lt_of_heap h3)).trans h3⟩
theorem heap_set4 {w : World} {b : Nat} {p d : W4} (h : w.heap[b]? = some (.cells p.cs 35 (0, 0))) :
    ((((w.setCell ⟨b, 0, none⟩ (.int .u64 d.a)).setCell ⟨b, 1, none⟩ (.int .u64 d.b)).setCell ⟨b, 2, none⟩ (.int .u64 d.c)).setCell ⟨b, 3, none⟩ (.int .u64 d.d)).heap[b]? = some (.cells d.cs 35 (0, 0)) := by
  have h1 := heap_setCell_same w b 0 _ _ (.int .u64 d.a) h
  have h2 := heap_setCell_same _ b 1 _ _ (.int .u64 d.b) h1
  have h3 := heap_setCell_same _ b 2 _ _ (.int .u64 d.c) h2
  exact heap_setCell_same _ b 3 _ _ (.int .u64 d.d) h3
theorem heap_set4_other {w : World} {b k : Nat} {v0 v1 v2 v3 : Value} (hk : k ≠ b) : ((((w.setCell ⟨b, 0, none⟩ v0).setCell ⟨b, 1, none⟩ v1).setCell ⟨b, 2, none⟩ v2).setCell ⟨b, 3, none⟩ v3).heap[k]? = w.heap[k]? := by
  rw [Below.heap_setCell _ _ _ _ hk, Below.heap_setCell _ _ _ _ hk, Below.heap_setCell _ _ _ _ hk, Below.heap_setCell _ _ _ _ hk]
theorem Sh.set4 {w wr : World} {low p d : W4} (h : Sh w wr low p) : Sh w ((((wr.setCell ⟨w.heap.size + 1 + 1 + 1, 0, none⟩ (.int .u64 d.a)).setCell ⟨w.heap.size + 1 + 1 + 1, 1, none⟩ (.int .u64 d.b)).setCell ⟨w.heap.size + 1 + 1 + 1, 2, none⟩ (.int .u64 d.c)).setCell ⟨w.heap.size + 1 + 1 + 1, 3, none⟩ (.int .u64 d.d)) low d := by
  obtain ⟨h0, h1, h2, h3⟩ := h
  exact ⟨below4 h0 (by omega), (heap_set4_other (by omega)).trans h1, (heap_set4_other (by omega)).trans h2, heap_set4 h3⟩
theorem Sh.start (w : World) (xc : Array Value) (low p : W4) (q : Nat) : Sh w (((((w.alloc (.cells xc 35)).alloc (.cells (W4.mk 0 0 0 0).cs 35)).drewN q).alloc (.cells low.cs 35)).alloc (.cells p.cs 35)) low p := by
  obtain ⟨w2, hw2⟩ : ∃ w2, w2 = ((w.alloc (.cells xc 35)).alloc (.cells (W4.mk 0 0 0 0).cs 35)).drewN q := ⟨_, rfl⟩
  have hs : w2.heap.size = w.heap.size + 1 + 1 := by rw [hw2]; simp [World.drewN]
  have hb : Below w.heap.size w w2 := by rw [hw2]; exact ⟨rfl, rfl, rfl, by simp [World.drewN]; omega, (((Below.refl w.heap.size w).alloc (Nat.le_refl _) _).alloc (by simp) _).block⟩
  have h1 : w2.heap[w.heap.size + 1]? = some (.cells (W4.mk 0 0 0 0).cs 35 (0, 0)) := by
    rw [hw2]
    show ((w.alloc (.cells xc 35)).alloc (.cells (W4.mk 0 0 0 0).cs 35)).heap[w.heap.size + 1]? = _
    rw [show w.heap.size + 1 = (w.alloc (.cells xc 35)).heap.size from by simp]
    exact heap_alloc_new _ _
  rw [← hw2]
  clear hw2
  refine ⟨(hb.alloc (by omega) _).alloc (by simp; omega) _, ?_, ?_, ?_⟩
  · rw [Below.heap_alloc _ _ _ (by simp; omega), Below.heap_alloc _ _ _ (by omega)]; exact h1
  · rw [Below.heap_alloc _ _ _ (by simp; omega), ← hs]; exact heap_alloc_new _ _
  · rw [show w.heap.size + 1 + 1 + 1 = (w2.alloc (.cells low.cs 35)).heap.size from by simp; omega]; exact heap_alloc_new _ _
/-- The answer's place alone. -/
def Rz (w wr : World) : Prop := Below w.heap.size w wr ∧ wr.heap[w.heap.size + 1]? = some (.cells (W4.mk 0 0 0 0).cs 35 (0, 0))
theorem Rz.below {w wr w' : World} (h : Rz w wr) (hb : Below wr.heap.size wr w') : Rz w w' := ⟨h.1.trans (hb.mono h.1.size), (hb.block _ (lt_of_heap h.2)).trans h.2⟩
theorem Rz.alloc {w wr : World} (h : Rz w wr) (o : Obj) : Rz w (wr.alloc o) := h.below ((Below.refl _ _).alloc (Nat.le_refl _) _)
theorem Rz.set4 {w wr : World} {b : Nat} {v0 v1 v2 v3 : Value} (h : Rz w wr) (h1 : w.heap.size + 1 < b) : Rz w ((((wr.setCell ⟨b, 0, none⟩ v0).setCell ⟨b, 1, none⟩ v1).setCell ⟨b, 2, none⟩ v2).setCell ⟨b, 3, none⟩ v3) :=
  ⟨below4 h.1 (by omega), (heap_set4_other (by omega)).trans h.2⟩
set_option maxRecDepth 100000 in
set_option maxHeartbeats 1000000 in
theorem shift_any (x : W4) (hx : x.ok) (hlt : x.val < ordN) (v : Nat) (hv : v < 18446744073709551616) (w : World) (ho : Ord w) : Calls Tryd.prog 32 #[.agg x.cs, .int .u64 (v : Int)] w (NumPost ((x.val * 18446744073709551616 + v) % ordN) w) := by
  have hz35 : ∀ w, (zeroValue 35).run Tryd.prog w = .ok (.agg #[.int .u64 0, .int .u64 0, .int .u64 0, .int .u64 0]) w := fun w => by kernel_rfl
  have hB : Below w.heap.size w ((w.alloc (.cells x.cs 35)).alloc (.cells #[.int .u64 0, .int .u64 0, .int .u64 0, .int .u64 0] 35)) := ((Below.refl _ _).alloc (Nat.le_refl _) _).alloc (by simp) _
  have hX : ((w.alloc (.cells x.cs 35)).alloc (.cells #[.int .u64 0, .int .u64 0, .int .u64 0, .int .u64 0] 35)).heap[w.heap.size]? = some (.cells x.cs 35 (0, 0)) := by
    rw [Below.heap_alloc _ _ _ (by simp)]; exact heap_alloc_new w _
  obtain ⟨e0, e1, e2, e3⟩ := cell4 hX
  have hx1 := hx
  unfold W4.ok at hx1
  have hq0 := or16 (d := x.d) hx1.2.2.1
  have hd60 : x.d ≤ 1152921504606846976 := by unfold W4.val ordN at hlt; omega
  obtain ⟨q0, hq0d⟩ : ∃ q0, x.c / 1152921504606846976 + x.d % 1152921504606846976 * 16 = q0 := ⟨_, rfl⟩
  obtain ⟨q1, hq1d⟩ : ∃ q1, x.d / 1152921504606846976 = q1 := ⟨_, rfl⟩
  rw [hq0d] at hq0
  have hq0b : q0 < 18446744073709551616 := by omega
  have hq1b : q1 ≤ 1 := by omega
  have hq1 : (x.d : Int) / 1152921504606846976 = (q1 : Int) := by omega
  obtain ⟨h00, l00, m00, v00, b00⟩ := mul_w q0 6346243789798364141 hq0b (by decide) rfl (Y := 6346243789798364141) rfl
  obtain ⟨h01, l01, m01, v01, b01⟩ := mul_w q0 1503914060200516822 hq0b (by decide) rfl (Y := 1503914060200516822) rfl
  obtain ⟨h10, l10, m10, v10, b10⟩ := mul_w q1 6346243789798364141 (by omega) (by decide) rfl (Y := 6346243789798364141) rfl
  obtain ⟨h11, l11, m11, v11, b11⟩ := mul_w q1 1503914060200516822 (by omega) (by decide) rfl (Y := 1503914060200516822) rfl
  have Hm00 := Lib.hid m00
  have Hm01 := Lib.hid m01
  have Hm10 := Lib.hid m10
  have Hm11 := Lib.hid m11
  have Hv := Lib.hid (And.intro v00 (And.intro v01 (And.intro v10 v11)))
  have Hb := Lib.hid (And.intro b00 (And.intro b01 (And.intro b10 b11)))
  have Hq := Lib.hid (And.intro hq0d (And.intro hq1d (And.intro hq0b hq1b)))
  have Hx := Lib.hid hx
  have Hlt := Lib.hid hlt
  have HB := Lib.hid hB
  have Ho := Lib.hid ho
  have h60 := and60 hx1.2.2.1
  have H60 := Lib.hid h60
  have Hq0 := Lib.hid hq0
  have Hq1 := Lib.hid hq1
  have T0 : Hid True := trivial
  clear hq0 hd60 hq0d hq1d hq0b hq1b hq1 m00 m01 m10 m11 v00 v01 v10 v11 b00 b01 b10 b11 hx1 hx hlt hB ho hX h60
  go_enter Tryd.func32, Tryd.ntmps32
  go_wp2
  go_quiet (fail)
  rw [Hq0.out, Hq1.out]
  go_wp2_with (first
    | (go_at_call 20; first
      | (have hx_ := T0; refine (Hm00.out _).mono ?_; rintro e w1 ⟨rfl, rfl⟩; have T1 := hx_; clear T0 hx_)
      | (have hx_ := T1; refine (Hm01.out _).mono ?_; rintro e w1 ⟨rfl, rfl⟩; have T2 := hx_; clear T1 hx_)
      | (have hx_ := T2; refine (Hm10.out _).mono ?_; rintro e w1 ⟨rfl, rfl⟩; have T3 := hx_; clear T2 hx_)
      | (have hx_ := T3; refine (Hm11.out _).mono ?_; rintro e w1 ⟨rfl, rfl⟩; have T4 := hx_; clear T3 hx_))
    | (go_at_call 22; first
      | (have hx_ := T4; rw [H60.out]; refine (add_any ⟨l00, h00, h01, 0⟩ ⟨0, l01, 0, 0⟩ ⟨Hb.out.1.1, Hb.out.1.2, Hb.out.2.1.2, z_lt⟩ ⟨z_lt, Hb.out.2.1.1, z_lt, z_lt⟩ _).mono ?_; rintro e w5 ⟨d1, c1, rfl, hd1, hc1, hv1, hb1⟩; have H5 : Hid (Sh w w5 ⟨v, x.a, x.b, x.c % 1152921504606846976⟩ ⟨l00, h00, h01, 0⟩) := (Sh.start w x.cs ⟨v, x.a, x.b, x.c % 1152921504606846976⟩ ⟨l00, h00, h01, 0⟩ nq).below hb1; rw [show d1.cs = #[.int .u64 d1.a, .int .u64 d1.b, .int .u64 d1.c, .int .u64 d1.d] from rfl]; have D1 := Lib.hid (And.intro hd1 hv1); obtain ⟨z0, z1, z2, z3⟩ := cell4 H5.out.2.2.2; have hfz : ∀ i, w5.frozen? ⟨w.heap.size + 1 + 1 + 1, i, none⟩ = false := (fun i => by have h_ := H5.out.2.2.2; simp only [World.frozen?, h_]; rfl); have T5 := hx_; clear T4 hx_ hd1 hc1 hv1 hb1)
      | (have hx_ := T5; refine (add_any d1 ⟨0, l10, h10, 0⟩ D1.out.1 ⟨z_lt, Hb.out.2.2.1.1, Hb.out.2.2.1.2, z_lt⟩ _).mono ?_; rintro e w6 ⟨d2, c2, rfl, hd2, hc2, hv2, hb2⟩; have H6 := Lib.hid ((Sh.set4 (d := d1) H5.out).below hb2); rw [show d2.cs = #[.int .u64 d2.a, .int .u64 d2.b, .int .u64 d2.c, .int .u64 d2.d] from rfl]; have D2 := Lib.hid (And.intro hd2 hv2); obtain ⟨z0, z1, z2, z3⟩ := cell4 H6.out.2.2.2; have hfz : ∀ i, w6.frozen? ⟨w.heap.size + 1 + 1 + 1, i, none⟩ = false := (fun i => by have h_ := H6.out.2.2.2; simp only [World.frozen?, h_]; rfl); have T6 := hx_; clear T5 hx_ hd2 hc2 hv2 hb2 H5)
      | (have hx_ := T6; refine (add_any d2 ⟨0, 0, l11, 0⟩ D2.out.1 ⟨z_lt, z_lt, Hb.out.2.2.2.1, z_lt⟩ _).mono ?_; rintro e w7 ⟨d3, c3, rfl, hd3, hc3, hv3, hb3⟩; have H7 := Lib.hid ((Sh.set4 (d := d2) H6.out).below hb3); rw [show d3.cs = #[.int .u64 d3.a, .int .u64 d3.b, .int .u64 d3.c, .int .u64 d3.d] from rfl]; have D3 := Lib.hid (And.intro hd3 hv3); obtain ⟨z0, z1, z2, z3⟩ := cell4 H7.out.2.2.2; have hfz : ∀ i, w7.frozen? ⟨w.heap.size + 1 + 1 + 1, i, none⟩ = false := (fun i => by have h_ := H7.out.2.2.2; simp only [World.frozen?, h_]; rfl); obtain ⟨y0, y1, y2, y3⟩ := cell4 H7.out.2.2.1; have T7 := hx_; clear T6 hx_ hd3 hc3 hv3 hb3 H6)
      | (have hx_ := T8; refine (add_any r ordW D4.out.1 ordW_ok _).mono ?_; rintro e w9 ⟨d5, c5, rfl, hd5, hc5, hv5, hb5⟩; have h17 : w9.heap[w8.heap.size]? = some (.cells r.cs 35 (0, 0)) := ((hb5.block w8.heap.size (by simp)).trans (heap_alloc_new w8 (.cells r.cs 35))); have R9 := Lib.hid ((R8.out.alloc (.cells r.cs 35)).below hb5); rw [show d5.cs = #[.int .u64 d5.a, .int .u64 d5.b, .int .u64 d5.c, .int .u64 d5.d] from rfl]; obtain ⟨p0, p1, p2, p3⟩ := cell4 h17; have hfz9 : ∀ i, w9.frozen? ⟨w8.heap.size, i, none⟩ = false := (fun i => by simp only [World.frozen?, h17]; rfl); have D5 := Lib.hid (And.intro hd5 (And.intro hc5 hv5)); have T9 := hx_; clear T8 hx_ hd5 hc5 hv5 hb5 h17))
    | (go_at_call 24; have hx_ := T7; refine (sub_any ⟨v, x.a, x.b, x.c % 1152921504606846976⟩ d3 ⟨hv, Hx.out.1, Hx.out.2.1, by show x.c % 1152921504606846976 < _; omega⟩ D3.out.1 _).mono ?_; rintro e w8 ⟨r, br, rfl, hr, hbr, hvr, hbb⟩; have H8 := Lib.hid ((Sh.set4 (d := d3) H7.out).below hbb); rw [show r.cs = #[.int .u64 r.a, .int .u64 r.b, .int .u64 r.c, .int .u64 r.d] from rfl]; have D4 := Lib.hid (And.intro hr (And.intro hbr hvr)); obtain ⟨_, o0, o1, o2, o3⟩ := Ho.out.below (H8.out.1.alloc H8.out.1.size (.cells #[.int .u64 r.a, .int .u64 r.b, .int .u64 r.c, .int .u64 r.d] 35)); have R8 : Hid (Rz w w8) := ⟨H8.out.1, H8.out.2.1⟩; have B8 : Hid (w.heap.size + 1 + 1 + 1 < w8.heap.size) := lt_of_heap H8.out.2.2.2; have T8 := hx_; clear T7 hx_ hr hbr hvr hbb H7 H8)
    | (go_at_call 23; first
      | (have hx_ := T9; refine (less_any d5 D5.out.1 _ (Ho.out.below (Rz.set4 R9.out (by have := B8.out; omega)).1)).mono ?_; rintro e w10 ⟨d6, rfl, hd6, hv6, hb6⟩; have R10 := Lib.hid ((Rz.set4 R9.out (by have := B8.out; omega)).below hb6); rw [show d6.cs = #[.int .u64 d6.a, .int .u64 d6.b, .int .u64 d6.c, .int .u64 d6.d] from rfl]; obtain ⟨a0, a1, a2, a3⟩ := cell4 R10.out.2; have hfzA : ∀ i, w10.frozen? ⟨w.heap.size + 1, i, none⟩ = false := (fun i => by have h_ := R10.out.2; simp only [World.frozen?, h_]; rfl); have D6 := Lib.hid (And.intro hd6 hv6); clear T9 hx_ hd6 hv6 hb6)
      | (have hx_ := T8; refine (less_any r D4.out.1 _ (Ho.out.below (R8.out.alloc _).1)).mono ?_; rintro e w10 ⟨d6, rfl, hd6, hv6, hb6⟩; have R10 := Lib.hid ((R8.out.alloc _).below hb6); rw [show d6.cs = #[.int .u64 d6.a, .int .u64 d6.b, .int .u64 d6.c, .int .u64 d6.d] from rfl]; obtain ⟨a0, a1, a2, a3⟩ := cell4 R10.out.2; have hfzA : ∀ i, w10.frozen? ⟨w.heap.size + 1, i, none⟩ = false := (fun i => by have h_ := R10.out.2; simp only [World.frozen?, h_]; rfl); have D6 := Lib.hid (And.intro hd6 hv6); clear T8 hx_ hd6 hv6 hb6)))
  all_goals rename_i h0
  all_goals have hP := shift_sum Hv.out.1 Hv.out.2.1 Hv.out.2.2.1 Hv.out.2.2.2 Hq.out.2.2.1 Hq.out.2.2.2 D1.out.1 D2.out.1 D3.out.1 D1.out.2 D2.out.2 D3.out.2
  all_goals rw [← Hq.out.1, ← Hq.out.2.1] at hP
  all_goals have hM := shift_math Hx.out Hlt.out hv D4.out.1 hP D4.out.2.1 D4.out.2.2
  all_goals have hld := ret4 (d := d6) R10.out.2
  · refine bodyPost_ret (v := .agg d6.cs) (by simp [results, Tryd.results32, asAddr, hld]) rfl ?_
    exact ⟨d6, rfl, D6.out.1, D6.out.2.trans (hM.2 (by simpa using h0) d5 c5 D5.out.1 D5.out.2.1 D5.out.2.2), below4 R10.out.1 (by omega)⟩
  · refine bodyPost_ret (v := .agg d6.cs) (by simp [results, Tryd.results32, asAddr, hld]) rfl ?_
    exact ⟨d6, rfl, D6.out.1, D6.out.2.trans (hM.1 (by simpa using h0)), below4 R10.out.1 (by omega)⟩
end Go.Proofs.YtagjeideohplpaaDoor
