/- The texts Sc4a Sc4 Sc5 Sc6 of this work, merged by wip/merge.py. No conditions. -/
import Derived.Test.YtbcpmnnlhdgbhaaGreatDoorQG17
import Derived.Shelf.Bits.Mul64
import Derived.Deep.QuietTactic
import Derived.Test.YtbcpmnnlhdgbhaaGreatDoorQG00
import Derived.Deep.LoopGhost
namespace Go.Proofs.YtbcpmnnlhdgbhaaGreatDoor.Sc
open Go.RowKit
theorem mod_of {T r q : Nat} (h : T = r + ordN * q) (hr : r < ordN) : T % ordN = r := by
  rw [h, Nat.add_mul_mod_self_left, Nat.mod_eq_of_lt hr]
theorem shift_sum {q0 q1 h00 l00 h01 l01 h10 l10 h11 l11 : Nat} {d1 d2 d3 : W4} {c1 c2 c3 : Nat}
    (v00 : l00 + 18446744073709551616 * h00 = q0 * 6346243789798364141) (v01 : l01 + 18446744073709551616 * h01 = q0 * 1503914060200516822) (v10 : l10 + 18446744073709551616 * h10 = q1 * 6346243789798364141) (v11 : l11 + 18446744073709551616 * h11 = q1 * 1503914060200516822)
    (hq0 : q0 < 18446744073709551616) (hq1 : q1 ≤ 1) (k1 : d1.ok) (k2 : d2.ok) (k3 : d3.ok)
    (e1 : (W4.mk l00 h00 h01 0).val + (W4.mk 0 l01 0 0).val = d1.val + c1 * 115792089237316195423570985008687907853269984665640564039457584007913129639936)
    (e2 : d1.val + (W4.mk 0 l10 h10 0).val = d2.val + c2 * 115792089237316195423570985008687907853269984665640564039457584007913129639936)
    (e3 : d2.val + (W4.mk 0 0 l11 0).val = d3.val + c3 * 115792089237316195423570985008687907853269984665640564039457584007913129639936) :
    d3.val = q0 * 6346243789798364141 + 18446744073709551616 * (q0 * 1503914060200516822) + 18446744073709551616 * (q1 * 6346243789798364141) + 340282366920938463463374607431768211456 * (q1 * 1503914060200516822) := by
  have b1 := d1.val_lt k1
  have b2 := d2.val_lt k2
  have b3 := d3.val_lt k3
  have z11 : h11 = 0 := by omega
  simp only [W4.val] at e1
  have f1 : c1 = 0 ∧ d1.val = q0 * 6346243789798364141 + 18446744073709551616 * (q0 * 1503914060200516822) := by
    rw [show d1.a + 18446744073709551616 * d1.b + 340282366920938463463374607431768211456 * d1.c + 6277101735386680763835789423207666416102355444464034512896 * d1.d = d1.val from rfl] at e1
    omega
  clear e1
  have f2 : c2 = 0 ∧ d2.val = d1.val + 18446744073709551616 * (q1 * 6346243789798364141) := by
    have : (W4.mk 0 l10 h10 0).val = 18446744073709551616 * l10 + 340282366920938463463374607431768211456 * h10 := by simp [W4.val]
    rw [this] at e2
    obtain ⟨_, f1⟩ := f1
    omega
  have f3 : c3 = 0 ∧ d3.val = d2.val + 340282366920938463463374607431768211456 * (q1 * 1503914060200516822) := by
    have : (W4.mk 0 0 l11 0).val = 340282366920938463463374607431768211456 * l11 := by simp [W4.val]
    rw [this] at e3
    obtain ⟨_, f1⟩ := f1
    obtain ⟨_, f2⟩ := f2
    omega
  omega
set_option maxRecDepth 100000 in
set_option maxHeartbeats 1000000 in
theorem shift_math {x : W4} (hx : x.ok) (hlt : x.val < ordN) {v : Nat} (hv : v < 18446744073709551616) {P br : Nat} {r : W4} (hr : r.ok)
    (hP : P = (x.c / 1152921504606846976 + x.d % 1152921504606846976 * 16) * 6346243789798364141 + 18446744073709551616 * ((x.c / 1152921504606846976 + x.d % 1152921504606846976 * 16) * 1503914060200516822) + 18446744073709551616 * (x.d / 1152921504606846976 * 6346243789798364141) + 340282366920938463463374607431768211456 * (x.d / 1152921504606846976 * 1503914060200516822))
    (hbr : br ≤ 1) (h : (W4.mk v x.a x.b (x.c % 1152921504606846976)).val + br * 115792089237316195423570985008687907853269984665640564039457584007913129639936 = r.val + P) :
    (br = 0 → lessN r.val = (x.val * 18446744073709551616 + v) % ordN) ∧ (br ≠ 0 → ∀ (d : W4) (c : Nat), d.ok → c ≤ 1 → r.val + ordW.val = d.val + c * 115792089237316195423570985008687907853269984665640564039457584007913129639936 → lessN d.val = (x.val * 18446744073709551616 + v) % ordN) := by
  have br1 := r.val_lt hr
  obtain ⟨low, hlow⟩ : ∃ low, (W4.mk v x.a x.b (x.c % 1152921504606846976)).val = low := ⟨_, rfl⟩
  rw [hlow] at h
  have hl : low = v + 18446744073709551616 * x.a + 340282366920938463463374607431768211456 * x.b + 6277101735386680763835789423207666416102355444464034512896 * (x.c % 1152921504606846976) := by rw [← hlow]; rfl
  clear hlow
  unfold W4.ok at hx
  obtain ⟨q, hq⟩ : ∃ q, q = (x.c / 1152921504606846976 + x.d % 1152921504606846976 * 16) + 18446744073709551616 * (x.d / 1152921504606846976) := ⟨_, rfl⟩
  have hd60 : x.d ≤ 1152921504606846976 := by unfold W4.val ordN at hlt; omega
  have hT : x.val * 18446744073709551616 + v = low + 7237005577332262213973186563042994240829374041602535252466099000494570602496 * q := by unfold W4.val; omega
  have hPq : P = 27742317777372353535851937790883648493 * q := by
    rw [hP, hq]
    generalize x.c / 1152921504606846976 + x.d % 1152921504606846976 * 16 = a
    generalize x.d / 1152921504606846976 = b
    rw [Nat.mul_add, show 27742317777372353535851937790883648493 = 6346243789798364141 + 18446744073709551616 * 1503914060200516822 from rfl, Nat.add_mul, Nat.add_mul]
    simp only [Nat.mul_assoc, Nat.mul_comm a, Nat.mul_comm b]
    omega
  have hOq : ∀ n, ordN * n = 7237005577332262213973186563042994240829374041602535252466099000494570602496 * n + 27742317777372353535851937790883648493 * n := fun n => by rw [show ordN = 7237005577332262213973186563042994240829374041602535252466099000494570602496 + 27742317777372353535851937790883648493 from rfl, Nat.add_mul]
  have hqb : q ≤ 36893488147419103232 := by omega
  have hlb : low < 7237005577332262213973186563042994240829374041602535252466099000494570602496 := by omega
  have hcqb : 27742317777372353535851937790883648493 * q ≤ 27742317777372353535851937790883648493 * 36893488147419103232 := Nat.mul_le_mul_left _ hqb
  have hOq := hOq q
  obtain ⟨cq, hcq⟩ : ∃ cq, 27742317777372353535851937790883648493 * q = cq := ⟨_, rfl⟩
  obtain ⟨kq, hkq⟩ : ∃ kq, 7237005577332262213973186563042994240829374041602535252466099000494570602496 * q = kq := ⟨_, rfl⟩
  rw [hcq] at hPq hcqb hOq
  rw [hkq] at hT hOq
  rw [hT]
  clear hP hl hq hd60 hx hv hT hlt hkq
  have hK : 7237005577332262213973186563042994240829374041602535252466099000494570602496 < ordN := by decide
  have hCb : 27742317777372353535851937790883648493 * 36893488147419103232 < ordN := by decide
  have hO4 : ordN < 115792089237316195423570985008687907853269984665640564039457584007913129639936 := by decide
  have hcb : cq < ordN := Nat.lt_of_le_of_lt hcqb hCb
  have hlb2 : low < ordN := Nat.lt_trans hlb hK
  clear hK hCb hcqb hlb
  generalize hOn : ordN = O at *
  have HOn : ordN = O ∨ False := .inl hOn
  clear hOn
  refine ⟨fun h0 => ?_, fun h0 d c hd hc hs => ?_⟩
  · subst h0
    rw [hPq, Nat.zero_mul, Nat.add_zero] at h
    have h2 : low + kq = r.val + O * q := by rw [hOq, h, Nat.add_assoc, Nat.add_comm cq kq]
    have h3 : r.val < O := Nat.lt_of_le_of_lt (by rw [h]; exact Nat.le_add_right _ _) hlb2
    have hOn : ordN = O := HOn.elim id False.elim
    clear HOn
    subst hOn
    rw [mod_of h2 h3]
    unfold lessN
    rw [if_neg (Nat.not_le_of_lt h3)]
  · obtain rfl : br = 1 := by omega
    have hd1 := d.val_lt hd
    have hOn : ordN = O := HOn.elim id False.elim
    rw [ordW_val, hOn] at hs
    clear hOn
    have hc1 : c = 1 := by clear HOn; omega
    subst hc1
    have hq1 : 1 ≤ q := by
      rcases Nat.eq_zero_or_pos q with h0 | h0
      · subst h0
        simp only [Nat.mul_zero] at hcq
        clear HOn
        omega
      · exact h0
    have ht : O * (q - 1) + O = kq + cq := by rw [← hOq, ← Nat.mul_succ]; congr 1; clear HOn; omega
    have h2 : low + kq = d.val + O * (q - 1) := by clear HOn; omega
    have h3 : d.val < O := by clear HOn; omega
    have hOn : ordN = O := HOn.elim id False.elim
    clear HOn
    subst hOn
    rw [mod_of h2 h3]
    unfold lessN
    rw [if_neg (Nat.not_le_of_lt h3)]
end Go.Proofs.YtbcpmnnlhdgbhaaGreatDoor.Sc

namespace Go.Proofs.YtbcpmnnlhdgbhaaGreatDoor.Sc
open Go.RowKit Go.Lib
set_option maxRecDepth 100000 in
set_option maxHeartbeats 4000000 in
theorem Mul64_any (x y : Nat) (hx : x < 18446744073709551616) (hy : y < 18446744073709551616) (w : World) :
    Calls Tryz.prog 180 #[.int .u64 (x : Int), .int .u64 (y : Int)] w fun e w' => e = .returned (.tuple #[.int .u64 ((x * y / 18446744073709551616 : Nat) : Int), .int .u64 ((x * y % 18446744073709551616 : Nat) : Int)]) ∧ w' = w := by
  obtain ⟨bd, bt, bw, hhi⟩ := Lib.mul64_hi x y hx hy
  have ba := Lib.half_mul_le (a := x / 4294967296) (b := y / 4294967296) (by omega) (by omega)
  have bb := Lib.half_mul_le (a := x / 4294967296) (b := y % 4294967296) (by omega) (by omega)
  have bc := Lib.half_mul_le (a := x % 4294967296) (b := y / 4294967296) (by omega) (by omega)
  have ba' : x / 4294967296 * (y / 4294967296) < 18446744073709551616 := by omega
  have bb' : x / 4294967296 * (y % 4294967296) < 18446744073709551616 := by omega
  have bc' : x % 4294967296 * (y / 4294967296) < 18446744073709551616 := by omega
  have bh1 : x / 4294967296 * (y / 4294967296) + (x / 4294967296 * (y % 4294967296) + x % 4294967296 * (y % 4294967296) / 4294967296) / 4294967296 < 18446744073709551616 := by omega
  have bh : x / 4294967296 * (y / 4294967296) + (x / 4294967296 * (y % 4294967296) + x % 4294967296 * (y % 4294967296) / 4294967296) / 4294967296 + ((x / 4294967296 * (y % 4294967296) + x % 4294967296 * (y % 4294967296) / 4294967296) % 4294967296 + x % 4294967296 * (y / 4294967296)) / 4294967296 < 18446744073709551616 := by
    rw [hhi]
    have h1 : x * y ≤ 18446744073709551615 * 18446744073709551615 := Nat.mul_le_mul (by omega) (by omega)
    omega
  go_enter Tryz.func180, Tryz.ntmps180
  go_wp2
  simp only [Mul64.maskN x hx, Mul64.maskN y hy, Mul64.divN, Mul64.mulN, Mul64.addN, Mul64.wrapN _ bd, Mul64.wrapN _ bb', Mul64.wrapN _ bt, Mul64.maskN _ bt, Mul64.wrapN _ bc', Mul64.wrapN _ bw, Mul64.wrapN _ ba', Mul64.wrapN _ bh1, Mul64.wrapN _ bh, Mul64.wrapM (x * y)]
  rw [hhi]
  go_ret2
  exact ⟨rfl, rfl⟩

theorem or16 {c d : Nat} (hc : c < 18446744073709551616) : bits BinOp.or IntKind.u64 ((c : Int) / 1152921504606846976) (IntKind.u64.wrap ((d : Int) * 16)) = ((c / 1152921504606846976 + d % 1152921504606846976 * 16 : Nat) : Int) := by
  have h1 : (c : Int) / 1152921504606846976 = ((c / 1152921504606846976 : Nat) : Int) := by omega
  have h2 : IntKind.u64.wrap ((d : Int) * 16) = ((d % 1152921504606846976 * 16 : Nat) : Int) := by rw [IntKind.wrap_u64]; omega
  rw [h1, h2, bits_or_u64_nat _ _ (by omega) (by omega)]
  congr 1
  have h3 : c / 1152921504606846976 < 2 ^ 4 := by omega
  have h4 := Nat.shiftLeft_add_eq_or_of_lt h3 (d % 1152921504606846976)
  rw [Nat.shiftLeft_eq] at h4
  rw [Nat.or_comm, Nat.add_comm, show d % 1152921504606846976 * 16 = d % 1152921504606846976 * 2 ^ 4 from rfl]
  exact h4.symm
theorem and60 {c : Nat} (hc : c < 18446744073709551616) : bits BinOp.and IntKind.u64 (c : Int) 1152921504606846975 = ((c % 1152921504606846976 : Nat) : Int) := by
  have h := bits_and_u64_nat c 1152921504606846975 hc (by omega)
  have e : c &&& 1152921504606846975 = c % 1152921504606846976 := Nat.and_two_pow_sub_one_eq_mod c 60
  rw [e] at h
  exact h
/-- What Mul64 gives. -/
theorem mul_w (x y : Nat) (hx : x < 18446744073709551616) (hy : y < 18446744073709551616) {X Y : Int} (hX : X = (x : Int)) (hY : Y = (y : Int)) : ∃ h l : Nat, (∀ w, Calls Tryz.prog 180 #[.int .u64 X, .int .u64 Y] w fun e w' => e = .returned (.tuple #[.int .u64 (h : Int), .int .u64 (l : Int)]) ∧ w' = w) ∧ l + 18446744073709551616 * h = x * y ∧ l < 18446744073709551616 ∧ h < 18446744073709551616 := by
  subst hX hY
  refine ⟨_, _, fun w => Mul64_any x y hx hy w, Nat.mod_add_div _ _, Nat.mod_lt _ (by decide), ?_⟩
  have h1 : x * y ≤ 18446744073709551615 * 18446744073709551615 := Nat.mul_le_mul (by omega) (by omega)
  omega
theorem z_lt : 0 < 18446744073709551616 := by decide
/-- The blocks of shift: the answer's place, the lower part, what is taken off. -/
def Sh (w wr : World) (low p : W4) : Prop := Below w.heap.size w wr ∧ wr.heap[w.heap.size + 1]? = some (.cells (W4.mk 0 0 0 0).cs 294 (0, 0)) ∧ wr.heap[w.heap.size + 1 + 1]? = some (.cells low.cs 294 (0, 0)) ∧ wr.heap[w.heap.size + 1 + 1 + 1]? = some (.cells p.cs 294 (0, 0))
theorem Sh.below {w wr w' : World} {low p : W4} (h : Sh w wr low p) (hb : Below wr.heap.size wr w') : Sh w w' low p := by
  obtain ⟨h0, h1, h2, h3⟩ := h
  exact ⟨h0.trans (hb.mono h0.size), (hb.block _ (lt_of_heap h1)).trans h1, (hb.block _ (lt_of_heap h2)).trans h2, (hb.block _ (lt_of_heap h3)).trans h3⟩
theorem heap_set4 {w : World} {b : Nat} {p d : W4} (h : w.heap[b]? = some (.cells p.cs 294 (0, 0))) :
    ((((w.setCell ⟨b, 0, none⟩ (.int .u64 d.a)).setCell ⟨b, 1, none⟩ (.int .u64 d.b)).setCell ⟨b, 2, none⟩ (.int .u64 d.c)).setCell ⟨b, 3, none⟩ (.int .u64 d.d)).heap[b]? = some (.cells d.cs 294 (0, 0)) := by
  have h1 := heap_setCell_same w b 0 _ _ (.int .u64 d.a) h
  have h2 := heap_setCell_same _ b 1 _ _ (.int .u64 d.b) h1
  have h3 := heap_setCell_same _ b 2 _ _ (.int .u64 d.c) h2
  exact heap_setCell_same _ b 3 _ _ (.int .u64 d.d) h3
theorem heap_set4_other {w : World} {b k : Nat} {v0 v1 v2 v3 : Value} (hk : k ≠ b) : ((((w.setCell ⟨b, 0, none⟩ v0).setCell ⟨b, 1, none⟩ v1).setCell ⟨b, 2, none⟩ v2).setCell ⟨b, 3, none⟩ v3).heap[k]? = w.heap[k]? := by
  rw [Below.heap_setCell _ _ _ _ hk, Below.heap_setCell _ _ _ _ hk, Below.heap_setCell _ _ _ _ hk, Below.heap_setCell _ _ _ _ hk]
theorem Sh.set4 {w wr : World} {low p d : W4} (h : Sh w wr low p) : Sh w ((((wr.setCell ⟨w.heap.size + 1 + 1 + 1, 0, none⟩ (.int .u64 d.a)).setCell ⟨w.heap.size + 1 + 1 + 1, 1, none⟩ (.int .u64 d.b)).setCell ⟨w.heap.size + 1 + 1 + 1, 2, none⟩ (.int .u64 d.c)).setCell ⟨w.heap.size + 1 + 1 + 1, 3, none⟩ (.int .u64 d.d)) low d := by
  obtain ⟨h0, h1, h2, h3⟩ := h
  exact ⟨below4 h0 (by omega), (heap_set4_other (by omega)).trans h1, (heap_set4_other (by omega)).trans h2, heap_set4 h3⟩
theorem Sh.start (w : World) (xc : Array Value) (low p : W4) (q : Nat) : Sh w (((((w.alloc (.cells xc 294)).alloc (.cells (W4.mk 0 0 0 0).cs 294)).drewN q).alloc (.cells low.cs 294)).alloc (.cells p.cs 294)) low p := by
  obtain ⟨w2, hw2⟩ : ∃ w2, w2 = ((w.alloc (.cells xc 294)).alloc (.cells (W4.mk 0 0 0 0).cs 294)).drewN q := ⟨_, rfl⟩
  have hs : w2.heap.size = w.heap.size + 1 + 1 := by rw [hw2]; simp [World.drewN]
  have hb : Below w.heap.size w w2 := by rw [hw2]; exact ⟨rfl, rfl, rfl, by simp [World.drewN]; omega, (((Below.refl w.heap.size w).alloc (Nat.le_refl _) _).alloc (by simp) _).block⟩
  have h1 : w2.heap[w.heap.size + 1]? = some (.cells (W4.mk 0 0 0 0).cs 294 (0, 0)) := by
    rw [hw2]
    show ((w.alloc (.cells xc 294)).alloc (.cells (W4.mk 0 0 0 0).cs 294)).heap[w.heap.size + 1]? = _
    rw [show w.heap.size + 1 = (w.alloc (.cells xc 294)).heap.size from by simp]
    exact heap_alloc_new _ _
  rw [← hw2]
  clear hw2
  refine ⟨(hb.alloc (by omega) _).alloc (by simp; omega) _, ?_, ?_, ?_⟩
  · rw [Below.heap_alloc _ _ _ (by simp; omega), Below.heap_alloc _ _ _ (by omega)]; exact h1
  · rw [Below.heap_alloc _ _ _ (by simp; omega), ← hs]; exact heap_alloc_new _ _
  · rw [show w.heap.size + 1 + 1 + 1 = (w2.alloc (.cells low.cs 294)).heap.size from by simp; omega]; exact heap_alloc_new _ _
/-- The answer's place alone. -/
def Rz (w wr : World) : Prop := Below w.heap.size w wr ∧ wr.heap[w.heap.size + 1]? = some (.cells (W4.mk 0 0 0 0).cs 294 (0, 0))
theorem Rz.below {w wr w' : World} (h : Rz w wr) (hb : Below wr.heap.size wr w') : Rz w w' := ⟨h.1.trans (hb.mono h.1.size), (hb.block _ (lt_of_heap h.2)).trans h.2⟩
theorem Rz.alloc {w wr : World} (h : Rz w wr) (o : Obj) : Rz w (wr.alloc o) := h.below ((Below.refl _ _).alloc (Nat.le_refl _) _)
theorem Rz.set4 {w wr : World} {b : Nat} {v0 v1 v2 v3 : Value} (h : Rz w wr) (h1 : w.heap.size + 1 < b) : Rz w ((((wr.setCell ⟨b, 0, none⟩ v0).setCell ⟨b, 1, none⟩ v1).setCell ⟨b, 2, none⟩ v2).setCell ⟨b, 3, none⟩ v3) :=
  ⟨below4 h.1 (by omega), (heap_set4_other (by omega)).trans h.2⟩
set_option maxRecDepth 100000 in
set_option maxHeartbeats 1000000 in
theorem shift_any (x : W4) (hx : x.ok) (hlt : x.val < ordN) (v : Nat) (hv : v < 18446744073709551616) (w : World) (ho : Ord w) : Calls Tryz.prog 218 #[.agg x.cs, .int .u64 (v : Int)] w (NumPost ((x.val * 18446744073709551616 + v) % ordN) w) := by
  have hz35 : ∀ w, (zeroValue 294).run Tryz.prog w = .ok (.agg #[.int .u64 0, .int .u64 0, .int .u64 0, .int .u64 0]) w := fun w => by kernel_rfl
  have hB : Below w.heap.size w ((w.alloc (.cells x.cs 294)).alloc (.cells #[.int .u64 0, .int .u64 0, .int .u64 0, .int .u64 0] 294)) := ((Below.refl _ _).alloc (Nat.le_refl _) _).alloc (by simp) _
  have hX : ((w.alloc (.cells x.cs 294)).alloc (.cells #[.int .u64 0, .int .u64 0, .int .u64 0, .int .u64 0] 294)).heap[w.heap.size]? = some (.cells x.cs 294 (0, 0)) := by
    rw [Below.heap_alloc _ _ _ (by simp)]; exact heap_alloc_new w _
  obtain ⟨e0, e1, e2, e3⟩ := cell4 hX
  have hx1 := hx
  unfold W4.ok at hx1
  have hq0 := or16 (d := x.d) hx1.2.2.1
  have hd60 : x.d ≤ 1152921504606846976 := by unfold W4.val ordN at hlt; omega
  obtain ⟨q0, hq0d⟩ : ∃ q0, x.c / 1152921504606846976 + x.d % 1152921504606846976 * 16 = q0 := ⟨_, rfl⟩
  obtain ⟨q1, hq1d⟩ : ∃ q1, x.d / 1152921504606846976 = q1 := ⟨_, rfl⟩
  rw [hq0d] at hq0
  have hq0b : q0 < 18446744073709551616 := by omega
  have hq1b : q1 ≤ 1 := by omega
  have hq1 : (x.d : Int) / 1152921504606846976 = (q1 : Int) := by omega
  obtain ⟨h00, l00, m00, v00, b00⟩ := mul_w q0 6346243789798364141 hq0b (by decide) rfl (Y := 6346243789798364141) rfl
  obtain ⟨h01, l01, m01, v01, b01⟩ := mul_w q0 1503914060200516822 hq0b (by decide) rfl (Y := 1503914060200516822) rfl
  obtain ⟨h10, l10, m10, v10, b10⟩ := mul_w q1 6346243789798364141 (by omega) (by decide) rfl (Y := 6346243789798364141) rfl
  obtain ⟨h11, l11, m11, v11, b11⟩ := mul_w q1 1503914060200516822 (by omega) (by decide) rfl (Y := 1503914060200516822) rfl
  have Hm00 := Lib.hid m00
  have Hm01 := Lib.hid m01
  have Hm10 := Lib.hid m10
  have Hm11 := Lib.hid m11
  have Hv := Lib.hid (And.intro v00 (And.intro v01 (And.intro v10 v11)))
  have Hb := Lib.hid (And.intro b00 (And.intro b01 (And.intro b10 b11)))
  have Hq := Lib.hid (And.intro hq0d (And.intro hq1d (And.intro hq0b hq1b)))
  have Hx := Lib.hid hx
  have Hlt := Lib.hid hlt
  have HB := Lib.hid hB
  have Ho := Lib.hid ho
  have h60 := and60 hx1.2.2.1
  have H60 := Lib.hid h60
  have Hq0 := Lib.hid hq0
  have Hq1 := Lib.hid hq1
  have T0 : Hid True := trivial
  clear hq0 hd60 hq0d hq1d hq0b hq1b hq1 m00 m01 m10 m11 v00 v01 v10 v11 b00 b01 b10 b11 hx1 hx hlt hB ho hX h60
  go_enter Tryz.func218, Tryz.ntmps218
  go_wp2
  go_quiet (fail)
  rw [Hq0.out, Hq1.out]
  go_wp2_with (first
    | (go_at_call 180; first
      | (have hx_ := T0; refine (Hm00.out _).mono ?_; rintro e w1 ⟨rfl, rfl⟩; have T1 := hx_; clear T0 hx_)
      | (have hx_ := T1; refine (Hm01.out _).mono ?_; rintro e w1 ⟨rfl, rfl⟩; have T2 := hx_; clear T1 hx_)
      | (have hx_ := T2; refine (Hm10.out _).mono ?_; rintro e w1 ⟨rfl, rfl⟩; have T3 := hx_; clear T2 hx_)
      | (have hx_ := T3; refine (Hm11.out _).mono ?_; rintro e w1 ⟨rfl, rfl⟩; have T4 := hx_; clear T3 hx_))
    | (go_at_call 182; first
      | (have hx_ := T4; rw [H60.out]; refine (add_any ⟨l00, h00, h01, 0⟩ ⟨0, l01, 0, 0⟩ ⟨Hb.out.1.1, Hb.out.1.2, Hb.out.2.1.2, z_lt⟩ ⟨z_lt, Hb.out.2.1.1, z_lt, z_lt⟩ _).mono ?_; rintro e w5 ⟨d1, c1, rfl, hd1, hc1, hv1, hb1⟩; have H5 : Hid (Sh w w5 ⟨v, x.a, x.b, x.c % 1152921504606846976⟩ ⟨l00, h00, h01, 0⟩) := (Sh.start w x.cs ⟨v, x.a, x.b, x.c % 1152921504606846976⟩ ⟨l00, h00, h01, 0⟩ nq).below hb1; rw [show d1.cs = #[.int .u64 d1.a, .int .u64 d1.b, .int .u64 d1.c, .int .u64 d1.d] from rfl]; have D1 := Lib.hid (And.intro hd1 hv1); obtain ⟨z0, z1, z2, z3⟩ := cell4 H5.out.2.2.2; have hfz : ∀ i, w5.frozen? ⟨w.heap.size + 1 + 1 + 1, i, none⟩ = false := (fun i => by have h_ := H5.out.2.2.2; simp only [World.frozen?, h_]; rfl); have T5 := hx_; clear T4 hx_ hd1 hc1 hv1 hb1)
      | (have hx_ := T5; refine (add_any d1 ⟨0, l10, h10, 0⟩ D1.out.1 ⟨z_lt, Hb.out.2.2.1.1, Hb.out.2.2.1.2, z_lt⟩ _).mono ?_; rintro e w6 ⟨d2, c2, rfl, hd2, hc2, hv2, hb2⟩; have H6 := Lib.hid ((Sh.set4 (d := d1) H5.out).below hb2); rw [show d2.cs = #[.int .u64 d2.a, .int .u64 d2.b, .int .u64 d2.c, .int .u64 d2.d] from rfl]; have D2 := Lib.hid (And.intro hd2 hv2); obtain ⟨z0, z1, z2, z3⟩ := cell4 H6.out.2.2.2; have hfz : ∀ i, w6.frozen? ⟨w.heap.size + 1 + 1 + 1, i, none⟩ = false := (fun i => by have h_ := H6.out.2.2.2; simp only [World.frozen?, h_]; rfl); have T6 := hx_; clear T5 hx_ hd2 hc2 hv2 hb2 H5)
      | (have hx_ := T6; refine (add_any d2 ⟨0, 0, l11, 0⟩ D2.out.1 ⟨z_lt, z_lt, Hb.out.2.2.2.1, z_lt⟩ _).mono ?_; rintro e w7 ⟨d3, c3, rfl, hd3, hc3, hv3, hb3⟩; have H7 := Lib.hid ((Sh.set4 (d := d2) H6.out).below hb3); rw [show d3.cs = #[.int .u64 d3.a, .int .u64 d3.b, .int .u64 d3.c, .int .u64 d3.d] from rfl]; have D3 := Lib.hid (And.intro hd3 hv3); obtain ⟨z0, z1, z2, z3⟩ := cell4 H7.out.2.2.2; have hfz : ∀ i, w7.frozen? ⟨w.heap.size + 1 + 1 + 1, i, none⟩ = false := (fun i => by have h_ := H7.out.2.2.2; simp only [World.frozen?, h_]; rfl); obtain ⟨y0, y1, y2, y3⟩ := cell4 H7.out.2.2.1; have T7 := hx_; clear T6 hx_ hd3 hc3 hv3 hb3 H6)
      | (have hx_ := T8; refine (add_any r ordW D4.out.1 ordW_ok _).mono ?_; rintro e w9 ⟨d5, c5, rfl, hd5, hc5, hv5, hb5⟩; have h17 : w9.heap[w8.heap.size]? = some (.cells r.cs 294 (0, 0)) := ((hb5.block w8.heap.size (by simp)).trans (heap_alloc_new w8 (.cells r.cs 294))); have R9 := Lib.hid ((R8.out.alloc (.cells r.cs 294)).below hb5); rw [show d5.cs = #[.int .u64 d5.a, .int .u64 d5.b, .int .u64 d5.c, .int .u64 d5.d] from rfl]; obtain ⟨p0, p1, p2, p3⟩ := cell4 h17; have hfz9 : ∀ i, w9.frozen? ⟨w8.heap.size, i, none⟩ = false := (fun i => by simp only [World.frozen?, h17]; rfl); have D5 := Lib.hid (And.intro hd5 (And.intro hc5 hv5)); have T9 := hx_; clear T8 hx_ hd5 hc5 hv5 hb5 h17))
    | (go_at_call 219; have hx_ := T7; refine (sub_any ⟨v, x.a, x.b, x.c % 1152921504606846976⟩ d3 ⟨hv, Hx.out.1, Hx.out.2.1, by show x.c % 1152921504606846976 < _; omega⟩ D3.out.1 _).mono ?_; rintro e w8 ⟨r, br, rfl, hr, hbr, hvr, hbb⟩; have H8 := Lib.hid ((Sh.set4 (d := d3) H7.out).below hbb); rw [show r.cs = #[.int .u64 r.a, .int .u64 r.b, .int .u64 r.c, .int .u64 r.d] from rfl]; have D4 := Lib.hid (And.intro hr (And.intro hbr hvr)); obtain ⟨_, o0, o1, o2, o3⟩ := Ho.out.below (H8.out.1.alloc H8.out.1.size (.cells #[.int .u64 r.a, .int .u64 r.b, .int .u64 r.c, .int .u64 r.d] 294)); have R8 : Hid (Rz w w8) := ⟨H8.out.1, H8.out.2.1⟩; have B8 : Hid (w.heap.size + 1 + 1 + 1 < w8.heap.size) := lt_of_heap H8.out.2.2.2; have T8 := hx_; clear T7 hx_ hr hbr hvr hbb H7 H8)
    | (go_at_call 183; first
      | (have hx_ := T9; refine (less_any d5 D5.out.1 _ (Ho.out.below (Rz.set4 R9.out (by have := B8.out; omega)).1)).mono ?_; rintro e w10 ⟨d6, rfl, hd6, hv6, hb6⟩; have R10 := Lib.hid ((Rz.set4 R9.out (by have := B8.out; omega)).below hb6); rw [show d6.cs = #[.int .u64 d6.a, .int .u64 d6.b, .int .u64 d6.c, .int .u64 d6.d] from rfl]; obtain ⟨a0, a1, a2, a3⟩ := cell4 R10.out.2; have hfzA : ∀ i, w10.frozen? ⟨w.heap.size + 1, i, none⟩ = false := (fun i => by have h_ := R10.out.2; simp only [World.frozen?, h_]; rfl); have D6 := Lib.hid (And.intro hd6 hv6); clear T9 hx_ hd6 hv6 hb6)
      | (have hx_ := T8; refine (less_any r D4.out.1 _ (Ho.out.below (R8.out.alloc _).1)).mono ?_; rintro e w10 ⟨d6, rfl, hd6, hv6, hb6⟩; have R10 := Lib.hid ((R8.out.alloc _).below hb6); rw [show d6.cs = #[.int .u64 d6.a, .int .u64 d6.b, .int .u64 d6.c, .int .u64 d6.d] from rfl]; obtain ⟨a0, a1, a2, a3⟩ := cell4 R10.out.2; have hfzA : ∀ i, w10.frozen? ⟨w.heap.size + 1, i, none⟩ = false := (fun i => by have h_ := R10.out.2; simp only [World.frozen?, h_]; rfl); have D6 := Lib.hid (And.intro hd6 hv6); clear T8 hx_ hd6 hv6 hb6)))
  all_goals rename_i h0
  all_goals have hP := shift_sum Hv.out.1 Hv.out.2.1 Hv.out.2.2.1 Hv.out.2.2.2 Hq.out.2.2.1 Hq.out.2.2.2 D1.out.1 D2.out.1 D3.out.1 D1.out.2 D2.out.2 D3.out.2
  all_goals rw [← Hq.out.1, ← Hq.out.2.1] at hP
  all_goals have hM := shift_math Hx.out Hlt.out hv D4.out.1 hP D4.out.2.1 D4.out.2.2
  all_goals have hld := ret4 (d := d6) R10.out.2
  · refine bodyPost_ret (v := .agg d6.cs) (by simp [results, Tryz.results218, asAddr, hld]) rfl ?_
    exact ⟨d6, rfl, D6.out.1, D6.out.2.trans (hM.2 (by simpa using h0) d5 c5 D5.out.1 D5.out.2.1 D5.out.2.2), below4 R10.out.1 (by omega)⟩
  · refine bodyPost_ret (v := .agg d6.cs) (by simp [results, Tryz.results218, asAddr, hld]) rfl ?_
    exact ⟨d6, rfl, D6.out.1, D6.out.2.trans (hM.1 (by simpa using h0)), below4 R10.out.1 (by omega)⟩
end Go.Proofs.YtbcpmnnlhdgbhaaGreatDoor.Sc

namespace Go.Proofs.YtbcpmnnlhdgbhaaGreatDoor.Sc
open Go.RowKit
/-- The number that bytes are, the least first. -/
def leN : List UInt8 → Nat
  | [] => 0
  | b :: r => b.toNat + 256 * leN r
theorem leN_app : ∀ l m : List UInt8, leN (l ++ m) = leN l + 256 ^ l.length * leN m
  | [], m => by simp [leN]
  | b :: l, m => by
    rw [List.cons_append]
    simp only [leN, List.length_cons]
    rw [leN_app l m, Nat.mul_add, Nat.pow_succ, Nat.mul_comm (256 ^ l.length) 256, Nat.mul_assoc, Nat.add_assoc]
theorem leN_lt : ∀ l : List UInt8, leN l < 256 ^ l.length
  | [] => by simp [leN]
  | b :: l => by
    have h1 := leN_lt l
    have h2 := b.toNat_lt
    simp only [leN, List.length_cons, Nat.pow_succ]
    omega
/-- The bytes from j on of the eight that begin at i. -/
def wordAt (l : List UInt8) (i j : Nat) : Nat := leN ((l.drop (i + j)).take (8 - j))
theorem wordAt_end (l : List UInt8) (i : Nat) : wordAt l i 8 = 0 := by simp [wordAt, leN]
theorem wordAt_step {l : List UInt8} {i j : Nat} {b : UInt8} (hj : j < 8) (hb : l[i + j]? = some b) : wordAt l i j = b.toNat + 256 * wordAt l i (j + 1) := by
  have hlt : i + j < l.length := by
    rcases Nat.lt_or_ge (i + j) l.length with h | h
    · exact h
    · rw [List.getElem?_eq_none h] at hb; cases hb
  have hd : l.drop (i + j) = b :: l.drop (i + j + 1) := by
    rw [List.drop_eq_getElem_cons hlt]
    congr 1
    rw [List.getElem?_eq_getElem hlt] at hb
    exact Option.some.inj hb
  unfold wordAt
  rw [hd, show 8 - j = (8 - (j + 1)) + 1 from by omega, List.take_succ_cons]
  rfl
theorem wordAt_lt (l : List UInt8) (i j : Nat) : wordAt l i j < 256 ^ (8 - j) := by
  refine Nat.lt_of_lt_of_le (leN_lt _) (Nat.pow_le_pow_right (by omega) ?_)
  rw [List.length_take]
  omega
theorem leN_word {l : List UInt8} {k : Nat} (hl : 8 * (k + 1) ≤ l.length) : leN (l.drop (8 * k)) = wordAt l (8 * k) 0 + 18446744073709551616 * leN (l.drop (8 * (k + 1))) := by
  have h1 : l.drop (8 * k) = (l.drop (8 * k)).take 8 ++ l.drop (8 * (k + 1)) := by
    rw [show 8 * (k + 1) = 8 * k + 8 from by omega, ← List.drop_drop, List.take_append_drop]
  rw [h1, leN_app, List.length_take, List.length_drop, show min 8 (l.length - 8 * k) = 8 from by omega]
  rfl
theorem or8 {a b : Nat} (ha : a < 72057594037927936) (hb : b < 256) : bits BinOp.or IntKind.u64 (IntKind.u64.wrap ((a : Int) * 256)) (b : Int) = ((b + 256 * a : Nat) : Int) := by
  have h2 : IntKind.u64.wrap ((a : Int) * 256) = ((a * 256 : Nat) : Int) := by rw [IntKind.wrap_u64]; omega
  rw [h2, bits_or_u64_nat _ _ (by omega) (by omega)]
  congr 1
  have h4 := Nat.shiftLeft_add_eq_or_of_lt (show b < 2 ^ 8 from hb) a
  rw [Nat.shiftLeft_eq] at h4
  rw [show a * 256 = a * 2 ^ 8 from rfl, ← h4]
  omega
/-- The blocks of reduce: the answer's place, the number so far. -/
def Red (w wr : World) (a : W4) : Prop := Below w.heap.size w wr ∧ wr.heap[w.heap.size]? = some (.cells (W4.mk 0 0 0 0).cs 294 (0, 0)) ∧ wr.heap[w.heap.size + 1]? = some (.cells a.cs 294 (0, 0))
theorem Red.below {w wr w' : World} {a : W4} (h : Red w wr a) (hb : Below wr.heap.size wr w') : Red w w' a :=
  ⟨h.1.trans (hb.mono h.1.size), (hb.block _ (lt_of_heap h.2.1)).trans h.2.1, (hb.block _ (lt_of_heap h.2.2)).trans h.2.2⟩
theorem Red.set4 {w wr : World} {a d : W4} (h : Red w wr a) : Red w ((((wr.setCell ⟨w.heap.size + 1, 0, none⟩ (.int .u64 d.a)).setCell ⟨w.heap.size + 1, 1, none⟩ (.int .u64 d.b)).setCell ⟨w.heap.size + 1, 2, none⟩ (.int .u64 d.c)).setCell ⟨w.heap.size + 1, 3, none⟩ (.int .u64 d.d)) d :=
  ⟨below4 h.1 (by omega), (heap_set4_other (by omega)).trans h.2.1, heap_set4 h.2.2⟩
theorem Red.start (w : World) : Red w ((w.alloc (.cells (W4.mk 0 0 0 0).cs 294)).alloc (.cells (W4.mk 0 0 0 0).cs 294)) ⟨0, 0, 0, 0⟩ := by
  refine ⟨((Below.refl _ _).alloc (Nat.le_refl _) _).alloc (by simp) _, ?_, ?_⟩
  · rw [Below.heap_alloc _ _ _ (by simp)]; exact heap_alloc_new w _
  · rw [show w.heap.size + 1 = (w.alloc (.cells (W4.mk 0 0 0 0).cs 294)).heap.size from by simp]; exact heap_alloc_new _ _
theorem mod_step (X v O : Nat) : (X % O * 18446744073709551616 + v) % O = (v + 18446744073709551616 * X) % O := by
  rw [Nat.add_mod, Nat.mul_mod, Nat.mod_mod, ← Nat.mul_mod, ← Nat.add_mod, Nat.add_comm, Nat.mul_comm]
theorem ordN_pos : 0 < ordN := by decide
set_option maxRecDepth 100000 in
set_option maxHeartbeats 1000000 in
theorem reduce_any {A : Option Addr} {c m : Nat} (l : List UInt8) (hl : l.length = 8 * m) (hm : 0 < m ∧ m ≤ 8) (w : World) (hr : Reads w w.heap.size 1 A l.length (bvs l)) (ho : Ord w) :
    Calls Tryz.prog 179 #[.slice A l.length c] w (NumPost (leN l % ordN) w) := by
  have hz35 : ∀ w, (zeroValue 294).run Tryz.prog w = .ok (.agg (W4.mk 0 0 0 0).cs) w := fun w => by kernel_rfl
  obtain ⟨b, off, rfl, hb, hcell⟩ := hr.bytes (by omega)
  have Hcell := Lib.hid hcell
  have Hb := Lib.hid hb
  have Hl := Lib.hid hl
  have Hm := Lib.hid hm
  have Ho := Lib.hid ho
  have HS := Lib.hid (Red.start w)
  have hlm : (l.length : Int) = 8 * (m : Int) := by omega
  have hm8 : (m : Int) ≤ 8 := by omega
  have hm0 : (0 : Int) ≤ (m : Int) := by omega
  clear hr hcell hb hl hm ho
  go_enter Tryz.func179, Tryz.ntmps179
  go_wp2
  go_loopw [4] (fun i wr => ∃ (k : Nat) (a : W4), k ≤ m ∧ i = .int .i64 (8 * (k : Int) - 8) ∧ Hid (a.ok ∧ a.val = leN (l.drop (8 * k)) % ordN) ∧ Hid (Red w wr a)) (fun i _ => (intOf i + 8).toNat)
  case atStart => exact ⟨m, ⟨0, 0, 0, 0⟩, Nat.le_refl _, by go_num, ⟨⟨by decide, by decide, by decide, by decide⟩, by rw [← Hl.out, List.drop_length]; rfl⟩, HS⟩
  case round =>
    obtain ⟨k, a, hk, rfl, ha, hR⟩ := hrel
    clear HS
    cases k with
    | zero =>
      have e : 8 * ((0 : Nat) : Int) - 8 = -8 := rfl
      rw [e]
      obtain ⟨e0, e1, e2, e3⟩ := cell4 hR.out.2.2
      obtain ⟨z0, z1, z2, z3⟩ := cell4 hR.out.2.1
      have hfz : ∀ i, wr.frozen? ⟨w.heap.size, i, none⟩ = false := (fun i => by have h_ := hR.out.2.1; simp only [World.frozen?, h_]; rfl)
      have hld := ret4 (d := a) hR.out.2.1
      go_wp2
      refine bodyPost_ret (v := .agg a.cs) (by simp [results, Tryz.results179, asAddr, hld]) rfl ?_
      exact ⟨a, rfl, ha.out.1, by have h_ := ha.out.2; simpa using h_, below4 hR.out.1 (Nat.le_refl _)⟩
    | succ k =>
      have e : 8 * ((k + 1 : Nat) : Int) - 8 = 8 * (k : Int) := by omega
      rw [e]
      have hk0 : (0 : Int) ≤ (k : Int) := by omega
      have hkm : (k : Int) + 1 ≤ (m : Int) := by omega
      have Hk := Lib.hid hk
      clear e hk
      go_wp2
      go_loopw [5, 6] (fun wv jv wx => ∃ j : Nat, j ≤ 8 ∧ jv = .int .i64 ((j : Int) - 1) ∧ wv = .int .u64 ((wordAt l (8 * k) j : Nat) : Int) ∧ wx = wr) (fun _ jv _ => (intOf jv + 1).toNat)
      case atStart => exact ⟨8, Nat.le_refl _, by go_num, by rw [wordAt_end]; rfl, rfl⟩
      case round =>
        obtain ⟨j, hj, rfl, rfl, rfl⟩ := hrel
        cases j with
        | succ j =>
          have e : ((j + 1 : Nat) : Int) - 1 = (j : Int) := by omega
          rw [e]
          have hj0 : (0 : Int) ≤ (j : Int) := by omega
          have hj8 : (j : Int) < 8 := by omega
          have hkj : 8 * k + j < l.length := by have := Hl.out; have := Hk.out; omega
          have hkj' : 8 * (k : Int) + (j : Int) < 8 * (m : Int) := by omega
          obtain ⟨x, hx⟩ : ∃ x, l[8 * k + j]? = some x := ⟨_, List.getElem?_eq_getElem hkj⟩
          have hcx : wr.cell? ⟨b, off + (8 * k + j), none⟩ = some (.int .u8 (x.toNat : Int)) := (hR.out.1.cell (p := ⟨b, off + (8 * k + j), none⟩) Hb.out).trans (by have h_ := Hcell.out (8 * k + j) hkj; rw [List.getD_eq_getElem?_getD, hx] at h_; exact h_)
          have hor : bits BinOp.or IntKind.u64 (IntKind.u64.wrap (((wordAt l (8 * k) (j + 1) : Nat) : Int) * 256)) (x.toNat : Int) = ((wordAt l (8 * k) j : Nat) : Int) := by
            have h1 := wordAt_lt l (8 * k) (j + 1)
            have h2 : (256 : Nat) ^ (8 - (j + 1)) ≤ 256 ^ 7 := Nat.pow_le_pow_right (by omega) (by omega)
            rw [or8 (by omega) x.toNat_lt, wordAt_step (by omega) hx]
          have Hor := Lib.hid hor
          have hxb : (x.toNat : Int) < 256 := by have := x.toNat_lt; omega
          clear e hx hor hkj
          go_wp2
          go_roundw
          case rel => exact ⟨j, by omega, by go_num, by rw [Hor.out], trivial⟩
          case measure => simp [intOf]
        | zero =>
          have e : ((0 : Nat) : Int) - 1 = -1 := rfl
          rw [e]
          obtain ⟨e0, e1, e2, e3⟩ := cell4 hR.out.2.2
          have hwb : wordAt l (8 * k) 0 < 18446744073709551616 := wordAt_lt l (8 * k) 0
          have hal : a.val < ordN := by rw [ha.out.2]; exact Nat.mod_lt _ ordN_pos
          have hstep : (a.val * 18446744073709551616 + wordAt l (8 * k) 0) % ordN = leN (l.drop (8 * k)) % ordN := by
            have hlk : 8 * (k + 1) ≤ l.length := by have := Hl.out; have := Hk.out; omega
            rw [ha.out.2, leN_word (l := l) (k := k) hlk]
            exact mod_step _ _ _
          have Hstep := Lib.hid hstep
          have Hwb := Lib.hid hwb
          have Hal := Lib.hid hal
          clear e hstep hwb hal
          go_wp2_with (go_at_call 218; go_must (refine (shift_any a ha.out.1 Hal.out _ Hwb.out _ (Ho.out.below hR.out.1)).mono ?_; rintro e w2 ⟨d, rfl, hd, hdv, hb2⟩; have H2 := Lib.hid (hR.out.below hb2); rw [show d.cs = #[.int .u64 d.a, .int .u64 d.b, .int .u64 d.c, .int .u64 d.d] from rfl]; have D2 := Lib.hid (And.intro hd (hdv.trans Hstep.out)); obtain ⟨z0, z1, z2, z3⟩ := cell4 H2.out.2.2; have hfz2 : ∀ i, w2.frozen? ⟨w.heap.size + 1, i, none⟩ = false := (fun i => by have h_ := H2.out.2.2; simp only [World.frozen?, h_]; rfl); clear hd hdv hb2))
          go_roundw
          case rel => exact ⟨k, d, by have := Hk.out; omega, by go_num, D2.out, Red.set4 H2.out⟩
          case measure => simp [intOf]; omega
end Go.Proofs.YtbcpmnnlhdgbhaaGreatDoor.Sc

namespace Go.Proofs.YtbcpmnnlhdgbhaaGreatDoor.Sc
open Go.RowKit
def genC (f : Nat → UInt8) (n k : Nat) : Array Value := ((List.range n).map fun i => if i < k then bv (f i) else .int .u8 0).toArray
def genL (f : Nat → UInt8) (n : Nat) : List UInt8 := (List.range n).map f
theorem genC_size (f : Nat → UInt8) (n k : Nat) : (genC f n k).size = n := by simp [genC]
theorem genC_set (f : Nat → UInt8) (n k : Nat) (hk : k < n) {v : Value} (hv : v = bv (f k)) : (genC f n k).setIfInBounds k v = genC f n (k + 1) := by
  subst hv
  apply Array.ext_getElem?
  intro i
  by_cases hi : i = k
  · subst hi; simp [genC, hk]
  · rw [Array.getElem?_setIfInBounds_ne (Ne.symm hi)]
    simp only [genC]
    by_cases h64 : i < n
    · simp only [List.getElem?_toArray, List.getElem?_map, List.getElem?_range h64, Option.map_some]
      by_cases h : i < k
      · rw [if_pos h, if_pos (by omega)]
      · rw [if_neg h, if_neg (by omega)]
    · simp [h64]
theorem genC_last (f : Nat → UInt8) (n : Nat) : genC f n n = (bvs (genL f n)).toArray := by
  simp only [genC, bvs, genL, List.map_map]
  refine congrArg List.toArray (List.map_congr_left ?_)
  intro i hi
  rw [if_pos (by simpa using hi)]
  rfl
theorem genL_length (f : Nat → UInt8) (n : Nat) : (genL f n).length = n := by simp [genL]
theorem there_alloc {w : World} {b o n : Nat} (h : w.there b o n) (hb : b < w.heap.size) (x : Obj) : (w.alloc x).there b o n := fun j hj => by
  have h1 := Below.heap_alloc w x b hb
  rw [World.cell?_of_block (a := ⟨b, o + j, none⟩) h1, World.frozen?_of_block (a := ⟨b, o + j, none⟩) h1]
  exact h j hj
theorem there_new (w : World) (cs : Array Value) (t : TypeId) (n : Nat) (h : n ≤ cs.size) : (w.alloc (.cells cs t)).there w.heap.size 0 n := fun j hj => by
  refine ⟨?_, ?_⟩
  · rw [Nat.zero_add, cell_new, Array.getElem?_eq_getElem (by omega)]; rfl
  · unfold World.frozen?
    rw [show (w.alloc (.cells cs t)).heap[w.heap.size]? = _ from heap_alloc_new w _]
    simp
theorem below_setCells {B b : Nat} {a : World} : ∀ (vs : List Value) (o : Nat) (w : World), Below B a w → B ≤ b → Below B a (w.setCells b o vs)
  | [], _, _, h, _ => h
  | v :: vs, o, _, h, hb => below_setCells vs (o + 1) _ (h.setCell (p := ⟨b, o, none⟩) hb v) hb
def W4.wd (x : W4) (j : Nat) : Nat := if j = 0 then x.a else if j = 1 then x.b else if j = 2 then x.c else x.d
theorem W4.at_ (x : W4) {j : Nat} (hj : j < 4) : x.cs[j]? = some (.int .u64 (x.wd j : Int)) := by
  obtain rfl | rfl | rfl | rfl : j = 0 ∨ j = 1 ∨ j = 2 ∨ j = 3 := by omega
  all_goals rfl
theorem W4.wd_lt {x : W4} (h : x.ok) (j : Nat) : x.wd j < 18446744073709551616 := by
  unfold W4.ok at h
  unfold W4.wd
  split
  · exact h.1
  · split
    · exact h.2.1
    · split
      · exact h.2.2.1
      · exact h.2.2.2
def byteW (x : W4) (i : Nat) : UInt8 := UInt8.ofNat (x.wd (i / 8) / 2 ^ (8 * (i % 8)))
theorem byte_val (x : W4) (k : Nat) : Value.int IntKind.u8 ((x.wd (k / 8) : Int) / 2 ^ (8 * (k % 8)) % 256) = bv (byteW x k) := by
  unfold bv byteW
  congr 1
def BytesPost (l : List UInt8) (w : World) (e : Ending) (w' : World) : Prop := e = .returned (.agg (bvs l).toArray) ∧ Below w.heap.size w w'
set_option maxRecDepth 100000 in
set_option maxHeartbeats 1000000 in
theorem bytes_any (x : W4) (hx : x.ok) (w : World) : Calls Tryz.prog 184 #[.agg x.cs] w (BytesPost (genL (byteW x) 32) w) := by
  obtain ⟨zs, hzs⟩ : ∃ zs : Array Value, zs = genC (byteW x) 32 0 := ⟨_, rfl⟩
  have hz32 : ∀ w, (zeroValue 31).run Tryz.prog w = .ok (.agg zs) w := fun w => by rw [hzs]; kernel_rfl
  have Hzs := Lib.hid hzs
  have hzz : zs.size = 32 := by rw [hzs]; exact genC_size _ _ _
  have Hx := Lib.hid hx
  have hthz := there_new (w.alloc (.cells x.cs 294)) zs 31 32 (by omega)
  have hX : ((w.alloc (.cells x.cs 294)).alloc (.cells zs 31)).heap[w.heap.size]? = some (.cells x.cs 294 (0, 0)) := by
    rw [Below.heap_alloc _ _ _ (by simp)]; exact heap_alloc_new w _
  rw [show (w.alloc (.cells x.cs 294)).heap.size = w.heap.size + 1 from by simp] at hthz
  have HX := Lib.hid hX
  have Hth := Lib.hid hthz
  clear hzs hzz hx hX hthz
  go_enter Tryz.func184, Tryz.ntmps184
  go_wp2
  go_loopw [5] (fun i wr => ∃ (k : Nat) (cs : Array Value) (wz : World), k ≤ 32 ∧ i = .int .i64 k ∧ Hid (cs = genC (byteW x) 32 k) ∧ wr = wz.alloc (.cells cs 31) ∧ Hid (w.heap.size + 2 = wz.heap.size) ∧ Hid (wz.there (w.heap.size + 1) 0 32 ∧ wz.heap[w.heap.size]? = some (.cells x.cs 294 (0, 0))) ∧ Hid (Below w.heap.size w wz)) (fun i _ => 32 - (intOf i).toNat)
  case atStart => exact ⟨0, _, _, by omega, rfl, Hzs.out, rfl, (by simp : w.heap.size + 2 = ((w.alloc _).alloc _).heap.size), ⟨Hth.out, HX.out⟩, (((Below.refl _ _).alloc (Nat.le_refl _) _).alloc (by simp) _)⟩
  case round =>
    obtain ⟨k, cs, wz, hk, rfl, hcs, rfl, hsz, hth, hbw⟩ := hrel
    clear HX Hth
    have hsz' : w.heap.size + 2 = wz.heap.size := hsz.out
    by_cases hlt : k < 32
    · have hlt' : (k : Int) < 32 := by omega
      have hk0 : (0 : Int) ≤ (k : Int) := by omega
      have hcell : (wz.alloc (.cells cs 31)).cell? ⟨wz.heap.size, k, none⟩ = cs[k]? := cell_new _ _ _ _
      have hck : cs[k]? = some (.int .u8 0) := by rw [hcs.out]; simp [genC, hlt]
      have hbox : (wz.alloc (.cells cs 31)).cell? ⟨w.heap.size, k / 8, none⟩ = some (.int .u64 (x.wd (k / 8) : Int)) := by
        rw [World.cell?_alloc_lt _ _ _ (by simp; omega), cell_of_row wz w.heap.size (k / 8) _ _ _ hth.out.2]
        exact x.at_ (by omega)
      go_wp2
      go_roundw
      case rel => exact ⟨k + 1, _, wz, hlt, by go_num, (by show _ = _; rw [hcs.out]; exact genC_set _ 32 k hlt (byte_val x k)), rfl, hsz, hth, hbw⟩
      case measure => simp [intOf]; omega
    · obtain rfl : k = 32 := by omega
      have hrange : (wz.alloc (.cells cs 31)).rangeAt wz.heap.size 0 cs.toList := fun j v hv => by rw [Nat.zero_add, cell_new]; simpa using hv
      have hr := Lib.hid hrange
      have h64 : Hid (cs.size = 32) := by show cs.size = 32; rw [hcs.out]; exact genC_size _ _ _
      clear hrange
      go_wp2_with (first
        | (refine wpList_load_mid rfl _ _ rfl (w.heap.size + 1 + 1) 0 rfl cs.toList _ (by rw [show w.heap.size + 1 + 1 = wz.heap.size from hsz']; exact hr.out) Tryz.underlying31 rfl (by rw [Array.length_toList, h64.out]; kernel_rfl) ?_; rw [Array.toArray_toList])
        | (refine wpList_store_mid rfl _ _ _ rfl (w.heap.size + 1) 0 cs rfl rfl (by rw [h64.out]; exact there_alloc hth.out.1 (by omega) _) (by rw [h64.out]; kernel_rfl) (by rw [hcs.out, genC_last]; exact all_oneCell_toArray (bvs_one _)) ?_))
      have hld : (loadVar 31 ⟨w.heap.size + 1, 0, none⟩).run Tryz.prog ((wz.alloc (.cells cs 31)).setCells (w.heap.size + 1) 0 cs.toList) = .ok (.agg cs.toList.toArray) ((wz.alloc (.cells cs 31)).setCells (w.heap.size + 1) 0 cs.toList) :=
        run_loadVar_mid _ _ _ _ cs.toList _ (World.rangeAt_setCells_same _ _ _ _ (by rw [Array.length_toList, h64.out]; exact there_alloc hth.out.1 (by omega) _)) Tryz.underlying31 rfl (by rw [Array.length_toList, h64.out]; kernel_rfl)
      refine bodyPost_ret (v := .agg cs.toList.toArray) (by simp [results, Tryz.results184, Act.put, asAddr, hld]) rfl ⟨?_, ?_⟩
      · rw [hcs.out, genC_last]
      · exact below_setCells _ _ _ (hbw.out.alloc hbw.out.size _) (by omega)
end Go.Proofs.YtbcpmnnlhdgbhaaGreatDoor.Sc
