/- The reference: mod, bit by bit. No conditions. -/
import Derived.Test.YtagjeideohplpaaDoorS18a
namespace Go.Proofs.YtagjeideohplpaaDoor
open Go.RowKit
theorem bit0 {N m v : Nat} (h : N / 2 ^ m % 2 = 0) (hv : v = 2 * (N / 2 ^ (m + 1)) % ordN) : v = N / 2 ^ m % ordN := by
  have h1 := bit_step N m
  rw [h, Nat.add_zero] at h1
  rw [hv, h1]
theorem bit1 {N m v u : Nat} (h : N / 2 ^ m % 2 = 1) (hv : v = 2 * (N / 2 ^ (m + 1)) % ordN) (hu : u = (v + 1) % ordN) : u = N / 2 ^ m % ordN := by
  have h1 := bit_step N m
  rw [h] at h1
  rw [hu, hv, h1, Nat.mod_add_mod]
/-- mod's blocks: the answer's place, the number so far. -/
structure P1 (w wr : World) (d : W4) : Prop where
  below : Below w.heap.size w wr
  r0 : wr.heap[w.heap.size]? = some (.cells (W4.mk 0 0 0 0).cs 48 (0, 0))
  d1 : wr.heap[w.heap.size + 1]? = some (.cells d.cs 48 (0, 0))
theorem P1.drew {w wr w' : World} {d : W4} (h : P1 w wr d) (hb : Below wr.heap.size wr w') : P1 w w' d :=
  ⟨h.below.trans (hb.mono h.below.size), heap_below h.r0 hb, heap_below h.d1 hb⟩
theorem P1.set4 {w wr : World} {d e : W4} (h : P1 w wr d) : P1 w ((((wr.setCell ⟨w.heap.size + 1, 0, none⟩ (.int .u64 e.a)).setCell ⟨w.heap.size + 1, 1, none⟩ (.int .u64 e.b)).setCell ⟨w.heap.size + 1, 2, none⟩ (.int .u64 e.c)).setCell ⟨w.heap.size + 1, 3, none⟩ (.int .u64 e.d)) e := by
  refine ⟨below4 h.below (by omega), (heap_set4_other (by omega)).trans h.r0, ?_⟩
  have h1 := heap_setCell_same wr (w.heap.size + 1) 0 _ _ (.int .u64 e.a) h.d1
  have h2 := heap_setCell_same _ (w.heap.size + 1) 1 _ _ (.int .u64 e.b) h1
  have h3 := heap_setCell_same _ (w.heap.size + 1) 2 _ _ (.int .u64 e.c) h2
  exact heap_setCell_same _ (w.heap.size + 1) 3 _ _ (.int .u64 e.d) h3
theorem P1.start (w : World) : P1 w ((w.alloc (.cells (W4.mk 0 0 0 0).cs 48)).alloc (.cells (W4.mk 0 0 0 0).cs 48)) ⟨0, 0, 0, 0⟩ := by
  refine ⟨((Below.refl _ _).alloc (Nat.le_refl _) _).alloc (by simp) _, ?_, ?_⟩
  · rw [Below.heap_alloc _ _ _ (by simp)]; exact heap_alloc_new w _
  · have h1 := heap_alloc_new (w.alloc (.cells (W4.mk 0 0 0 0).cs 48)) (.cells (W4.mk 0 0 0 0).cs 48)
    rw [show (w.alloc (.cells (W4.mk 0 0 0 0).cs 48)).heap.size = w.heap.size + 1 from by simp] at h1
    exact h1
def w1 : W4 := ⟨1, 0, 0, 0⟩
theorem w1_ok : w1.ok := ⟨by decide, by decide, by decide, by decide⟩
theorem w1_val : w1.val = 1 := by decide
theorem one_lt : w1.val < ordN := by decide
set_option maxRecDepth 100000 in
set_option maxHeartbeats 4000000 in
theorem mod_any {A : Option Addr} {c : Nat} (l : List UInt8) (hl : 0 < l.length ∧ l.length ≤ 64) (w : World) (hr : Reads w w.heap.size 1 A l.length (bvs l)) :
    Calls Tryd.prog 29 #[.slice A l.length c] w (NumPost (leN l % ordN) w) := by
  have hz48 : ∀ w, (zeroValue 48).run Tryd.prog w = .ok (.agg (W4.mk 0 0 0 0).cs) w := fun w => by kernel_rfl
  obtain ⟨b, off, rfl, hb, hcell⟩ := hr.bytes hl.1
  have Hcell := Lib.hid hcell
  have Hb := Lib.hid hb
  have Hl := Lib.hid hl
  have HS := Lib.hid (P1.start w)
  obtain ⟨n, hn⟩ : ∃ n, n = l.length := ⟨_, rfl⟩
  have Hn := Lib.hid hn
  have hn64 : (n : Int) ≤ 64 := by omega
  have hn0 : (0 : Int) < (n : Int) := by omega
  rw [← hn]
  clear hr hcell hb hl hn
  go_enter Tryd.func29, Tryd.ntmps29
  go_wp2
  go_loopw [4] (fun i wr => ∃ (j : Nat) (d : W4), j ≤ 8 * n ∧ i = .int .i64 ((j : Int) - 1) ∧ Hid (d.ok ∧ d.val = leN l / 2 ^ j % ordN) ∧ Hid (P1 w wr d)) (fun i _ => (intOf i + 1).toNat)
  case atStart => exact ⟨8 * n, ⟨0, 0, 0, 0⟩, Nat.le_refl _, by go_num, ⟨⟨by decide, by decide, by decide, by decide⟩, by
    have h1 := leN_lt l
    rw [← Hn.out, show (256 : Nat) = 2 ^ 8 from rfl, ← Nat.pow_mul] at h1
    rw [Nat.div_eq_of_lt h1]; rfl⟩, HS⟩
  case round =>
    obtain ⟨j, d, hj, rfl, hd, h3⟩ := hrel
    clear HS
    cases j with
    | zero =>
      have e : ((0 : Nat) : Int) - 1 = -1 := rfl
      rw [e]
      obtain ⟨e0, e1, e2, e3⟩ := cell4 h3.out.d1
      obtain ⟨z0, z1, z2, z3⟩ := cell4 h3.out.r0
      have hfz : ∀ i, wr.frozen? ⟨w.heap.size, i, none⟩ = false := fun i => frozen_row h3.out.r0 i
      have hld : (loadVar 48 ⟨w.heap.size, 0, none⟩).run Tryd.prog (wr.setCells w.heap.size 0 d.cs.toList) = .ok (.agg d.cs) (wr.setCells w.heap.size 0 d.cs.toList) := ret48 (World.rangeAt_setCells_same _ _ _ _ (there_row h3.out.r0 (Nat.le_refl 4)))
      go_wp2
      refine bodyPost_ret (v := .agg d.cs) (by simp [results, Tryd.results29, asAddr]; exact hld) rfl ⟨d, rfl, hd.out.1, ?_, ?_⟩
      · have h1 := hd.out.2
        rw [Nat.pow_zero, Nat.div_one] at h1
        exact h1
      · exact below4 h3.out.below (Nat.le_refl _)
    | succ m =>
      have e : ((m + 1 : Nat) : Int) - 1 = (m : Int) := by omega
      rw [e]
      have hm0 : (0 : Int) ≤ (m : Int) := by omega
      have hm8 : (m : Int) < 8 * (n : Int) := by omega
      have hq : (m : Int) / 8 < (n : Int) := by omega
      have hqn : m / 8 < l.length := by have := Hn.out; omega
      obtain ⟨u, hu⟩ : ∃ u, u = l.getD (m / 8) 0 := ⟨_, rfl⟩
      have hbit := leN_bit hqn
      rw [← hu] at hbit
      have hdl : d.val < ordN := by rw [hd.out.2]; exact Nat.mod_lt _ ordN_pos
      have Hdl := Lib.hid hdl
      have HC : Hid (∀ w', Below w.heap.size w w' → w'.cell? ⟨b, off + m / 8, none⟩ = some (.int .u8 (u.toNat : Int))) := fun w' hb' => (hb'.cell (p := ⟨b, off + m / 8, none⟩) Hb.out).trans (by have h_ := Hcell.out (m / 8) hqn; rw [← hu] at h_; exact h_)
      have Hqn := Lib.hid hqn
      obtain ⟨e0, e1, e2, e3⟩ := cell4 h3.out.d1
      have hand := and1_div (r := m % 8) u.toNat_lt
      obtain ⟨q, hqd⟩ : ∃ q, q = u.toNat / 2 ^ (m % 8) % 2 := ⟨_, rfl⟩
      rw [← hqd] at hand hbit
      have Hbit := Lib.hid hbit
      have hq2 : q = 0 ∨ q = 1 := by omega
      clear e hu hbit hdl hqn hqd
      have T0 : Hid True := trivial
      rcases hq2 with rfl | rfl
      · rw [show (((0 : Nat) : Int)) = 0 from rfl] at hand
        go_wp2_with (go_at_call 30; first
          | (have hx_ := T1; refine (plus_any d2 w1 D2.out.1 w1_ok D2.out.2.2 one_lt _).mono ?_; rintro e w3 ⟨d3, rfl, hd3, hdv3, hb3⟩; have h6 := Lib.hid (h5.out.drew hb3); rw [w1_val] at hdv3; have D3 := Lib.hid (And.intro hd3 hdv3); rw [show d3.cs = #[.int .u64 d3.a, .int .u64 d3.b, .int .u64 d3.c, .int .u64 d3.d] from rfl]; obtain ⟨k0, k1, k2, k3⟩ := cell4 h6.out.d1; have hfz3 : ∀ i, w3.frozen? ⟨w.heap.size + 1, i, none⟩ = false := (fun i => frozen_row h6.out.d1 i); clear hd3 hdv3 hb3 T1 hx_)
          | (have hx_ := T0; refine (plus_any d d hd.out.1 hd.out.1 Hdl.out Hdl.out wr).mono ?_; rintro e w2 ⟨d2, rfl, hd2, hdv, hb2⟩; have h4 := Lib.hid (h3.out.drew hb2); rw [dbl_mod hd.out.2] at hdv; have D2 := Lib.hid (And.intro hd2 (And.intro hdv (show d2.val < ordN by rw [hdv]; exact Nat.mod_lt _ ordN_pos))); rw [show d2.cs = #[.int .u64 d2.a, .int .u64 d2.b, .int .u64 d2.c, .int .u64 d2.d] from rfl]; obtain ⟨f0, f1, f2, f3⟩ := cell4 h4.out.d1; have hfz : ∀ i, w2.frozen? ⟨w.heap.size + 1, i, none⟩ = false := (fun i => frozen_row h4.out.d1 i); have h5 := Lib.hid (P1.set4 (e := d2) h4.out); have cu := HC.out _ h5.out.below; obtain ⟨g0, g1, g2, g3⟩ := cell4 h5.out.d1; have T1 := hx_; clear hd2 hdv hb2 T0 hx_))
        go_roundw
        case rel => exact ⟨m, d2, by omega, by go_num, ⟨D2.out.1, bit0 Hbit.out D2.out.2.1⟩, h5⟩
        case measure => simp [intOf]
      · rw [show (((1 : Nat) : Int)) = 1 from rfl] at hand
        go_wp2_with (go_at_call 30; first
          | (have hx_ := T1; refine (plus_any d2 w1 D2.out.1 w1_ok D2.out.2.2 one_lt _).mono ?_; rintro e w3 ⟨d3, rfl, hd3, hdv3, hb3⟩; have h6 := Lib.hid (h5.out.drew hb3); rw [w1_val] at hdv3; have D3 := Lib.hid (And.intro hd3 hdv3); rw [show d3.cs = #[.int .u64 d3.a, .int .u64 d3.b, .int .u64 d3.c, .int .u64 d3.d] from rfl]; obtain ⟨k0, k1, k2, k3⟩ := cell4 h6.out.d1; have hfz3 : ∀ i, w3.frozen? ⟨w.heap.size + 1, i, none⟩ = false := (fun i => frozen_row h6.out.d1 i); clear hd3 hdv3 hb3 T1 hx_)
          | (have hx_ := T0; refine (plus_any d d hd.out.1 hd.out.1 Hdl.out Hdl.out wr).mono ?_; rintro e w2 ⟨d2, rfl, hd2, hdv, hb2⟩; have h4 := Lib.hid (h3.out.drew hb2); rw [dbl_mod hd.out.2] at hdv; have D2 := Lib.hid (And.intro hd2 (And.intro hdv (show d2.val < ordN by rw [hdv]; exact Nat.mod_lt _ ordN_pos))); rw [show d2.cs = #[.int .u64 d2.a, .int .u64 d2.b, .int .u64 d2.c, .int .u64 d2.d] from rfl]; obtain ⟨f0, f1, f2, f3⟩ := cell4 h4.out.d1; have hfz : ∀ i, w2.frozen? ⟨w.heap.size + 1, i, none⟩ = false := (fun i => frozen_row h4.out.d1 i); have h5 := Lib.hid (P1.set4 (e := d2) h4.out); have cu := HC.out _ h5.out.below; obtain ⟨g0, g1, g2, g3⟩ := cell4 h5.out.d1; have T1 := hx_; clear hd2 hdv hb2 T0 hx_))
        go_roundw
        case rel => exact ⟨m, d3, by omega, by go_num, ⟨D3.out.1, bit1 Hbit.out D2.out.2.1 D3.out.2⟩, P1.set4 h6.out⟩
        case measure => simp [intOf]
end Go.Proofs.YtagjeideohplpaaDoor
