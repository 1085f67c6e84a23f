/- The order; the walk of less. No conditions. -/
import Derived.Test.YtagjeideohplpaaDoorS1
import Derived.Test.YtagjeideohplpaaDoorS2
namespace Go.Proofs.YtagjeideohplpaaDoor
open Go.RowKit
def ordW : W4 := ⟨6346243789798364141, 1503914060200516822, 0, 1152921504606846976⟩
def ordN : Nat := 7237005577332262213973186563042994240857116359379907606001950938285454250989
theorem ordW_ok : ordW.ok := ⟨by decide, by decide, by decide, by decide⟩
theorem ordW_val : ordW.val = ordN := by decide
/-- The order lies where it was laid. -/
def Ord (w : World) : Prop := 0 < w.heap.size ∧ w.cell? ⟨0, 0, none⟩ = some (.int .u64 6346243789798364141) ∧ w.cell? ⟨0, 1, none⟩ = some (.int .u64 1503914060200516822) ∧ w.cell? ⟨0, 2, none⟩ = some (.int .u64 0) ∧ w.cell? ⟨0, 3, none⟩ = some (.int .u64 1152921504606846976)
theorem Ord.below {w w' : World} (h : Ord w) (hb : Below w.heap.size w w') : Ord w' := by
  obtain ⟨h0, h1, h2, h3, h4⟩ := h
  exact ⟨Nat.lt_of_lt_of_le h0 hb.size, (hb.cell (p := ⟨0, 0, none⟩) h0).trans h1, (hb.cell (p := ⟨0, 1, none⟩) h0).trans h2, (hb.cell (p := ⟨0, 2, none⟩) h0).trans h3, (hb.cell (p := ⟨0, 3, none⟩) h0).trans h4⟩
def lessN (n : Nat) : Nat := if ordN ≤ n then n - ordN else n
def NumPost (n : Nat) (w : World) (e : Ending) (w' : World) : Prop := ∃ d : W4, e = .returned (.agg d.cs) ∧ d.ok ∧ d.val = n ∧ Below w.heap.size w w'
theorem W4.val_lt {x : W4} (h : x.ok) : x.val < 115792089237316195423570985008687907853269984665640564039457584007913129639936 := by
  unfold W4.ok at h
  unfold W4.val
  omega
theorem below4 {B b : Nat} {a w : World} {v0 v1 v2 v3 : Value} (h : Below B a w) (hb : B ≤ b) : Below B a ((((w.setCell ⟨b, 0, none⟩ v0).setCell ⟨b, 1, none⟩ v1).setCell ⟨b, 2, none⟩ v2).setCell ⟨b, 3, none⟩ v3) :=
  (((h.setCell (p := ⟨b, 0, none⟩) hb _).setCell (p := ⟨b, 1, none⟩) hb _).setCell (p := ⟨b, 2, none⟩) hb _).setCell (p := ⟨b, 3, none⟩) hb _
def z4 : Array Value := #[.int .u64 0, .int .u64 0, .int .u64 0, .int .u64 0]
theorem lt_of_heap {w : World} {b : Nat} {o : Obj} (h : w.heap[b]? = some o) : b < w.heap.size := by
  rcases Nat.lt_or_ge b w.heap.size with h' | h'
  · exact h'
  · rw [Array.getElem?_eq_none h'] at h; cases h
theorem lessN_of {x d : W4} {c : Nat} (hx : x.ok) (hd : d.ok) (hc : c ≤ 1) (hv : x.val + c * 115792089237316195423570985008687907853269984665640564039457584007913129639936 = d.val + ordW.val) :
    (c = 0 → d.val = lessN x.val) ∧ (c ≠ 0 → x.val = lessN x.val) := by
  have h1 := x.val_lt hx
  have h2 := d.val_lt hd
  rw [ordW_val] at hv
  unfold lessN
  unfold ordN at *
  refine ⟨fun h => ?_, fun h => ?_⟩
  · subst h
    rw [if_pos (by omega)]
    omega
  · obtain rfl : c = 1 := by omega
    rw [if_neg (by omega)]
set_option maxRecDepth 100000 in
set_option maxHeartbeats 1000000 in
theorem less_any (x : W4) (hx : x.ok) (w : World) (ho : Ord w) : Calls Tryd.prog 23 #[.agg x.cs] w (NumPost (lessN x.val) w) := by
  have hz35 : ∀ w, (zeroValue 35).run Tryd.prog w = .ok (.agg #[.int .u64 0, .int .u64 0, .int .u64 0, .int .u64 0]) w := fun w => by kernel_rfl
  have hB : Below w.heap.size w ((w.alloc (.cells x.cs 35)).alloc (.cells #[.int .u64 0, .int .u64 0, .int .u64 0, .int .u64 0] 35)) := ((Below.refl _ _).alloc (Nat.le_refl _) _).alloc (by simp) _
  obtain ⟨_, o0, o1, o2, o3⟩ := ho.below hB
  have hX : ((w.alloc (.cells x.cs 35)).alloc (.cells #[.int .u64 0, .int .u64 0, .int .u64 0, .int .u64 0] 35)).heap[w.heap.size]? = some (.cells x.cs 35 (0, 0)) := by
    rw [Below.heap_alloc _ _ _ (by simp)]; exact heap_alloc_new w _
  have hZ : ((w.alloc (.cells x.cs 35)).alloc (.cells #[.int .u64 0, .int .u64 0, .int .u64 0, .int .u64 0] 35)).heap[w.heap.size + 1]? = some (.cells (W4.mk 0 0 0 0).cs 35 (0, 0)) := by
    rw [show w.heap.size + 1 = (w.alloc (.cells x.cs 35)).heap.size from by simp]
    exact heap_alloc_new _ _
  obtain ⟨e0, e1, e2, e3⟩ := cell4 hX
  have HX := Lib.hid hX
  have HZ := Lib.hid hZ
  have HB := Lib.hid hB
  have Hx := Lib.hid hx
  clear hX hZ hB ho hx
  go_enter Tryd.func23, Tryd.ntmps23
  go_wp2_with (go_at_call 24; go_must (refine (sub_any x ordW Hx.out ordW_ok _).mono ?_; rintro e w2 ⟨d, c, rfl, hd, hc, hv, hb⟩; rw [show d.cs = #[.int .u64 d.a, .int .u64 d.b, .int .u64 d.c, .int .u64 d.d] from rfl]; have h2X := (hb.block _ (lt_of_heap HX.out)).trans HX.out; have h2Z := (hb.block _ (lt_of_heap HZ.out)).trans HZ.out; have Hd := Lib.hid hd; have Hv := Lib.hid (lessN_of Hx.out hd hc hv); have Hb2 := Lib.hid (HB.out.trans (hb.mono HB.out.size)); have H3Z := Lib.hid (((Below.heap_alloc w2 (.cells #[.int .u64 d.a, .int .u64 d.b, .int .u64 d.c, .int .u64 d.d] 35) _ (lt_of_heap h2Z))).trans h2Z); have h3X := (((Below.heap_alloc w2 (.cells #[.int .u64 d.a, .int .u64 d.b, .int .u64 d.c, .int .u64 d.d] 35) _ (lt_of_heap h2X))).trans h2X); obtain ⟨f0, f1, f2, f3⟩ := cell4 h3X; obtain ⟨z0, z1, z2, z3⟩ := cell4 H3Z.out; have hfz : ∀ i, (w2.alloc (.cells #[.int .u64 d.a, .int .u64 d.b, .int .u64 d.c, .int .u64 d.d] 35)).frozen? ⟨w.heap.size + 1, i, none⟩ = false := (fun i => by have h_ := H3Z.out; simp only [World.frozen?, h_]; rfl); clear h2X h2Z hd hv hb h3X))
  · rename_i h0
    have hld := ret4 (d := d) H3Z.out
    refine bodyPost_ret (v := .agg d.cs) (by simp [results, Tryd.results23, asAddr, hld]) rfl ?_
    exact ⟨d, rfl, Hd.out, Hv.out.1 (by simpa using h0), below4 (Hb2.out.alloc Hb2.out.size _) (by omega)⟩
  · rename_i h0
    have hld := ret4 (d := x) H3Z.out
    refine bodyPost_ret (v := .agg x.cs) (by simp [results, Tryd.results23, asAddr, hld]) rfl ?_
    exact ⟨x, rfl, Hx.out, Hv.out.2 (by simpa using h0), below4 (Hb2.out.alloc Hb2.out.size _) (by omega)⟩
end Go.Proofs.YtagjeideohplpaaDoor
