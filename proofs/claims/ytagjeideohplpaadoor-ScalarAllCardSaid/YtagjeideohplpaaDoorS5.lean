/- The walk of reduce. No conditions. -/
import Derived.Test.YtagjeideohplpaaDoorS4
import Derived.Test.YtagjeideohplpaaDoorU8
namespace Go.Proofs.YtagjeideohplpaaDoor
open Go.RowKit
/-- The number that bytes are, the least first. -/
def leN : List UInt8 → Nat
  | [] => 0
  | b :: r => b.toNat + 256 * leN r
theorem leN_app : ∀ l m : List UInt8, leN (l ++ m) = leN l + 256 ^ l.length * leN m
  | [], m => by simp [leN]
  | b :: l, m => by
    rw [List.cons_append]
    simp only [leN, List.length_cons]
    rw [leN_app l m, Nat.mul_add, Nat.pow_succ, Nat.mul_comm (256 ^ l.length) 256, Nat.mul_assoc, Nat.add_assoc]
theorem leN_lt : ∀ l : List UInt8, leN l < 256 ^ l.length
  | [] => by simp [leN]
  | b :: l => by
    have h1 := leN_lt l
    have h2 := b.toNat_lt
    simp only [leN, List.length_cons, Nat.pow_succ]
    omega
/-- The bytes from j on of the eight that begin at i. -/
def wordAt (l : List UInt8) (i j : Nat) : Nat := leN ((l.drop (i + j)).take (8 - j))
theorem wordAt_end (l : List UInt8) (i : Nat) : wordAt l i 8 = 0 := by simp [wordAt, leN]
theorem wordAt_step {l : List UInt8} {i j : Nat} {b : UInt8} (hj : j < 8) (hb : l[i + j]? = some b) : wordAt l i j = b.toNat + 256 * wordAt l i (j + 1) := by
  have hlt : i + j < l.length := by
    rcases Nat.lt_or_ge (i + j) l.length with h | h
    · exact h
    · rw [List.getElem?_eq_none h] at hb; cases hb
  have hd : l.drop (i + j) = b :: l.drop (i + j + 1) := by
    rw [List.drop_eq_getElem_cons hlt]
    congr 1
    rw [List.getElem?_eq_getElem hlt] at hb
    exact Option.some.inj hb
  unfold wordAt
  rw [hd, show 8 - j = (8 - (j + 1)) + 1 from by omega, List.take_succ_cons]
  rfl
theorem wordAt_lt (l : List UInt8) (i j : Nat) : wordAt l i j < 256 ^ (8 - j) := by
  refine Nat.lt_of_lt_of_le (leN_lt _) (Nat.pow_le_pow_right (by omega) ?_)
  rw [List.length_take]
  omega
theorem leN_word {l : List UInt8} {k : Nat} (hl : 8 * (k + 1) ≤ l.length) : leN (l.drop (8 * k)) = wordAt l (8 * k) 0 + 18446744073709551616 * leN (l.drop (8 * (k + 1))) := by
  have h1 : l.drop (8 * k) = (l.drop (8 * k)).take 8 ++ l.drop (8 * (k + 1)) := by
    rw [show 8 * (k + 1) = 8 * k + 8 from by omega, ← List.drop_drop, List.take_append_drop]
  rw [h1, leN_app, List.length_take, List.length_drop, show min 8 (l.length - 8 * k) = 8 from by omega]
  rfl
theorem or8 {a b : Nat} (ha : a < 72057594037927936) (hb : b < 256) : bits BinOp.or IntKind.u64 (IntKind.u64.wrap ((a : Int) * 256)) (b : Int) = ((b + 256 * a : Nat) : Int) := by
  have h2 : IntKind.u64.wrap ((a : Int) * 256) = ((a * 256 : Nat) : Int) := by rw [IntKind.wrap_u64]; omega
  rw [h2, bits_or_u64_nat _ _ (by omega) (by omega)]
  congr 1
  have h4 := Nat.shiftLeft_add_eq_or_of_lt (show b < 2 ^ 8 from hb) a
  rw [Nat.shiftLeft_eq] at h4
  rw [show a * 256 = a * 2 ^ 8 from rfl, ← h4]
  omega
/-- The blocks of reduce: the answer's place, the number so far. -/
def Red (w wr : World) (a : W4) : Prop := Below w.heap.size w wr ∧ wr.heap[w.heap.size]? = some (.cells (W4.mk 0 0 0 0).cs 35 (0, 0)) ∧ wr.heap[w.heap.size + 1]? = some (.cells a.cs 35 (0, 0))
theorem Red.below {w wr w' : World} {a : W4} (h : Red w wr a) (hb : Below wr.heap.size wr w') : Red w w' a :=
  ⟨h.1.trans (hb.mono h.1.size), (hb.block _ (lt_of_heap h.2.1)).trans h.2.1, (hb.block _ (lt_of_heap h.2.2)).trans h.2.2⟩
theorem Red.set4 {w wr : World} {a d : W4} (h : Red w wr a) : Red w ((((wr.setCell ⟨w.heap.size + 1, 0, none⟩ (.int .u64 d.a)).setCell ⟨w.heap.size + 1, 1, none⟩ (.int .u64 d.b)).setCell ⟨w.heap.size + 1, 2, none⟩ (.int .u64 d.c)).setCell ⟨w.heap.size + 1, 3, none⟩ (.int .u64 d.d)) d :=
  ⟨below4 h.1 (by omega), (heap_set4_other (by omega)).trans h.2.1, heap_set4 h.2.2⟩
theorem Red.start (w : World) : Red w ((w.alloc (.cells (W4.mk 0 0 0 0).cs 35)).alloc (.cells (W4.mk 0 0 0 0).cs 35)) ⟨0, 0, 0, 0⟩ := by
  refine ⟨((Below.refl _ _).alloc (Nat.le_refl _) _).alloc (by simp) _, ?_, ?_⟩
  · rw [Below.heap_alloc _ _ _ (by simp)]; exact heap_alloc_new w _
  · rw [show w.heap.size + 1 = (w.alloc (.cells (W4.mk 0 0 0 0).cs 35)).heap.size from by simp]; exact heap_alloc_new _ _
theorem mod_step (X v O : Nat) : (X % O * 18446744073709551616 + v) % O = (v + 18446744073709551616 * X) % O := by
  rw [Nat.add_mod, Nat.mul_mod, Nat.mod_mod, ← Nat.mul_mod, ← Nat.add_mod, Nat.add_comm, Nat.mul_comm]
theorem ordN_pos : 0 < ordN := by decide
set_option maxRecDepth 100000 in
set_option maxHeartbeats 1000000 in
theorem reduce_any {A : Option Addr} {c m : Nat} (l : List UInt8) (hl : l.length = 8 * m) (hm : 0 < m ∧ m ≤ 8) (w : World) (hr : Reads w w.heap.size 1 A l.length (bvs l)) (ho : Ord w) :
    Calls Tryd.prog 18 #[.slice A l.length c] w (NumPost (leN l % ordN) w) := by
  have hz35 : ∀ w, (zeroValue 35).run Tryd.prog w = .ok (.agg (W4.mk 0 0 0 0).cs) w := fun w => by kernel_rfl
  obtain ⟨b, off, rfl, hb, hcell⟩ := hr.bytes (by omega)
  have Hcell := Lib.hid hcell
  have Hb := Lib.hid hb
  have Hl := Lib.hid hl
  have Hm := Lib.hid hm
  have Ho := Lib.hid ho
  have HS := Lib.hid (Red.start w)
  have hlm : (l.length : Int) = 8 * (m : Int) := by omega
  have hm8 : (m : Int) ≤ 8 := by omega
  have hm0 : (0 : Int) ≤ (m : Int) := by omega
  clear hr hcell hb hl hm ho
  go_enter Tryd.func18, Tryd.ntmps18
  go_wp2
  go_loopw [4] (fun i wr => ∃ (k : Nat) (a : W4), k ≤ m ∧ i = .int .i64 (8 * (k : Int) - 8) ∧ Hid (a.ok ∧ a.val = leN (l.drop (8 * k)) % ordN) ∧ Hid (Red w wr a)) (fun i _ => (intOf i + 8).toNat)
  case atStart => exact ⟨m, ⟨0, 0, 0, 0⟩, Nat.le_refl _, by go_num, ⟨⟨by decide, by decide, by decide, by decide⟩, by rw [← Hl.out, List.drop_length]; rfl⟩, HS⟩
  case round =>
    obtain ⟨k, a, hk, rfl, ha, hR⟩ := hrel
    clear HS
    cases k with
    | zero =>
      have e : 8 * ((0 : Nat) : Int) - 8 = -8 := rfl
      rw [e]
      obtain ⟨e0, e1, e2, e3⟩ := cell4 hR.out.2.2
      obtain ⟨z0, z1, z2, z3⟩ := cell4 hR.out.2.1
      have hfz : ∀ i, wr.frozen? ⟨w.heap.size, i, none⟩ = false := (fun i => by have h_ := hR.out.2.1; simp only [World.frozen?, h_]; rfl)
      have hld := ret4 (d := a) hR.out.2.1
      go_wp2
      refine bodyPost_ret (v := .agg a.cs) (by simp [results, Tryd.results18, asAddr, hld]) rfl ?_
      exact ⟨a, rfl, ha.out.1, by have h_ := ha.out.2; simpa using h_, below4 hR.out.1 (Nat.le_refl _)⟩
    | succ k =>
      have e : 8 * ((k + 1 : Nat) : Int) - 8 = 8 * (k : Int) := by omega
      rw [e]
      have hk0 : (0 : Int) ≤ (k : Int) := by omega
      have hkm : (k : Int) + 1 ≤ (m : Int) := by omega
      have Hk := Lib.hid hk
      clear e hk
      go_wp2
      go_loopw [5, 6] (fun wv jv wx => ∃ j : Nat, j ≤ 8 ∧ jv = .int .i64 ((j : Int) - 1) ∧ wv = .int .u64 ((wordAt l (8 * k) j : Nat) : Int) ∧ wx = wr) (fun _ jv _ => (intOf jv + 1).toNat)
      case atStart => exact ⟨8, Nat.le_refl _, by go_num, by rw [wordAt_end]; rfl, rfl⟩
      case round =>
        obtain ⟨j, hj, rfl, rfl, rfl⟩ := hrel
        cases j with
        | succ j =>
          have e : ((j + 1 : Nat) : Int) - 1 = (j : Int) := by omega
          rw [e]
          have hj0 : (0 : Int) ≤ (j : Int) := by omega
          have hj8 : (j : Int) < 8 := by omega
          have hkj : 8 * k + j < l.length := by have := Hl.out; have := Hk.out; omega
          have hkj' : 8 * (k : Int) + (j : Int) < 8 * (m : Int) := by omega
          obtain ⟨x, hx⟩ : ∃ x, l[8 * k + j]? = some x := ⟨_, List.getElem?_eq_getElem hkj⟩
          have hcx : wr.cell? ⟨b, off + (8 * k + j), none⟩ = some (.int .u8 (x.toNat : Int)) := (hR.out.1.cell (p := ⟨b, off + (8 * k + j), none⟩) Hb.out).trans (by have h_ := Hcell.out (8 * k + j) hkj; rw [List.getD_eq_getElem?_getD, hx] at h_; exact h_)
          have hor : bits BinOp.or IntKind.u64 (IntKind.u64.wrap (((wordAt l (8 * k) (j + 1) : Nat) : Int) * 256)) (x.toNat : Int) = ((wordAt l (8 * k) j : Nat) : Int) := by
            have h1 := wordAt_lt l (8 * k) (j + 1)
            have h2 : (256 : Nat) ^ (8 - (j + 1)) ≤ 256 ^ 7 := Nat.pow_le_pow_right (by omega) (by omega)
            rw [or8 (by omega) x.toNat_lt, wordAt_step (by omega) hx]
          have Hor := Lib.hid hor
          have hxb : (x.toNat : Int) < 256 := by have := x.toNat_lt; omega
          clear e hx hor hkj
          go_wp2
          go_roundw
          case rel => exact ⟨j, by omega, by go_num, by rw [Hor.out], trivial⟩
          case measure => simp [intOf]
        | zero =>
          have e : ((0 : Nat) : Int) - 1 = -1 := rfl
          rw [e]
          obtain ⟨e0, e1, e2, e3⟩ := cell4 hR.out.2.2
          have hwb : wordAt l (8 * k) 0 < 18446744073709551616 := wordAt_lt l (8 * k) 0
          have hal : a.val < ordN := by rw [ha.out.2]; exact Nat.mod_lt _ ordN_pos
          have hstep : (a.val * 18446744073709551616 + wordAt l (8 * k) 0) % ordN = leN (l.drop (8 * k)) % ordN := by
            have hlk : 8 * (k + 1) ≤ l.length := by have := Hl.out; have := Hk.out; omega
            rw [ha.out.2, leN_word (l := l) (k := k) hlk]
            exact mod_step _ _ _
          have Hstep := Lib.hid hstep
          have Hwb := Lib.hid hwb
          have Hal := Lib.hid hal
          clear e hstep hwb hal
          go_wp2_with (go_at_call 32; go_must (refine (shift_any a ha.out.1 Hal.out _ Hwb.out _ (Ho.out.below hR.out.1)).mono ?_; rintro e w2 ⟨d, rfl, hd, hdv, hb2⟩; have H2 := Lib.hid (hR.out.below hb2); rw [show d.cs = #[.int .u64 d.a, .int .u64 d.b, .int .u64 d.c, .int .u64 d.d] from rfl]; have D2 := Lib.hid (And.intro hd (hdv.trans Hstep.out)); obtain ⟨z0, z1, z2, z3⟩ := cell4 H2.out.2.2; have hfz2 : ∀ i, w2.frozen? ⟨w.heap.size + 1, i, none⟩ = false := (fun i => by have h_ := H2.out.2.2; simp only [World.frozen?, h_]; rfl); clear hd hdv hb2))
          go_roundw
          case rel => exact ⟨k, d, by have := Hk.out; omega, by go_num, D2.out, Red.set4 H2.out⟩
          case measure => simp [intOf]; omega
end Go.Proofs.YtagjeideohplpaaDoor
