/- The arguments opened; the listed variable; the door's heap. No conditions. -/
import Derived.Test.YtagjeideohplpaaDoorRows
import Derived.Test.YtagjeideohplpaaDoorS13
import Derived.ProofKit
import Derived.LaidMore
import Derived.OpenShut
import Derived.Stop.Joined
namespace Go.Proofs.YtagjeideohplpaaDoor
open Go.ChangeShapes Go.WideShapes Go.ChangeAt Go.RowKit
def u8of : Value → UInt8
  | .int _ x => UInt8.ofNat x.toNat
  | _ => 0
theorem cell_u8 {w : World} {r : Reach} {b0 : Nat} {v : Value} (h : Cell.okWide Tryd.prog w r b0 5 v) : v = bv (u8of v) := by
  simp only [Cell.okWide, Tryd.underlying5, Cell.ok] at h
  cases v <;> simp_all
  rename_i k n
  obtain ⟨_, h⟩ := h
  simp only [IntKind.has] at h
  have h1 : (0 : Int) ≤ n := h.1
  have h2 : n ≤ 255 := h.2
  unfold bv u8of
  congr 1
  rw [UInt8.toNat_ofNat']
  omega
theorem arr_u8 {n : Nat} {t : TypeId} {w : World} {r : Reach} {b0 : Nat} {v : Value} (hu : Tryd.prog.underlying t = some (.array n 5)) (hts : Tryd.prog.cellTypes Tryd.prog.depth t = some (List.replicate n 5)) (hn : Tryd.prog.cellsOf t = n) (h0 : 0 < n)
    (hv : Value.okWide Tryd.prog w r b0 t v) : ∃ l : List UInt8, l.length = n ∧ v = .agg (bvs l).toArray := by
  simp only [Value.okWide, hu] at hv
  obtain ⟨cs, rfl, hsz, ts, hts', _, hc⟩ := hv
  rw [hts] at hts'
  obtain rfl := Option.some.inj hts'
  refine ⟨cs.toList.map u8of, by simp [hsz, hn], ?_⟩
  congr 1
  apply Array.ext_getElem?
  intro i
  simp only [bvs, List.map_map, List.getElem?_toArray, List.getElem?_map, Array.getElem?_toList]
  cases hi : cs[i]? with
  | none => rfl
  | some x =>
    obtain ⟨u, hu', hx⟩ := hc i x hi
    rw [List.length_replicate, List.getElem?_replicate] at hu'
    rw [if_pos (Nat.mod_lt _ h0)] at hu'
    obtain rfl := Option.some.inj hu'
    show some x = some (bv (u8of x))
    rw [← cell_u8 hx]
theorem arg32 {w : World} {r : Reach} {b0 : Nat} {v : Value} (hv : Value.okWide Tryd.prog w r b0 22 v) : ∃ l : List UInt8, l.length = 32 ∧ v = .agg (bvs l).toArray :=
  arr_u8 Tryd.underlying22 (by kernel_rfl) (by kernel_rfl) (by decide) hv
theorem arg64 {w : World} {r : Reach} {b0 : Nat} {v : Value} (hv : Value.okWide Tryd.prog w r b0 24 v) : ∃ l : List UInt8, l.length = 64 ∧ v = .agg (bvs l).toArray :=
  arr_u8 Tryd.underlying24 (by kernel_rfl) (by kernel_rfl) (by decide) hv
theorem own : ownKnob Tryd.prog.godebug = none := by kernel_rfl
theorem laidOut : laidOutB Tryd.prog = true := by kernel_rfl
theorem gOrder : Tryd.prog.globalNamed "beacon/scalar.order" = some 0 := by kernel_rfl
theorem tOrder : (Tryd.prog.globals[0]?).map (·.type) = some 35 := by kernel_rfl
def laid1 : List (String × DataW Unit) := [("beacon/scalar.order", Rows.laid_beacon_scalar_order)]
theorem cell_block {w : World} {b o : Nat} {v : Value} (h : w.cell? ⟨b, o, none⟩ = some v) : b < w.heap.size := by
  rcases Nat.lt_or_ge b w.heap.size with h' | h'
  · exact h'
  · exfalso
    unfold World.cell? at h
    simp [Array.getElem?_eq_none h'] at h
/-- The door's own heap meets the condition. -/
theorem door_met (os : Os) (args : Array Value) : laidMetH Tryd.prog laid1 ((World.doorLaid Tryd.prog 400 os).forCall (fun _ _ => 0) ⟨#[], args, []⟩).memory :=
  laidMetH_of_parts3 (fuel := 8) (laidMet_of_run' 8 (by kernel_rfl) (by kernel_rfl)) (by kernel_rfl) (by kernel_rfl)
set_option maxRecDepth 100000 in
/-- What the condition gives the walks: the order lies where it was laid. -/
theorem of_laid {W : World} (h : laidMetH Tryd.prog laid1 W) : Ord W := by
  rw [MakeChecks.laidMetH_plain _ _ _ (by kernel_rfl)] at h
  obtain ⟨ps, ⟨g0, t0, cs0, f0, p0, q0, hg0, ht0, hv0, hd0, _, _⟩, _, _⟩ := h
  obtain rfl := Option.some.inj (gOrder.symm.trans hg0)
  obtain rfl := Option.some.inj (tOrder.symm.trans ht0)
  obtain ⟨xs, m1, rfl, hx1, hlen, hn4, hel⟩ := DataW.trod_array Tryd.underlying35 hd0
  have c33 : Tryd.prog.cellsOf 33 = 1 := by kernel_rfl
  have c35 : Tryd.prog.cellsOf 35 = 4 := by kernel_rfl
  have hh0 := hel 0 (by decide)
  have hh1 := hel 1 (by decide)
  have hh2 := hel 2 (by decide)
  have hh3 := hel 3 (by decide)
  simp only [Prod.mk.injEq, DataW.agg.injEq, Rows.laid_beacon_scalar_order] at hx1
  match xs, hn4, hx1, hh0, hh1, hh2, hh3 with
  | [x0, x1, x2, x3], _, hx1, hh0, hh1, hh2, hh3 =>
    simp only [List.map_cons, List.map_nil, List.cons.injEq] at hx1
    obtain ⟨k0, e0, i0, _⟩ := DataW.trod_int Tryd.underlying33 (show DataW.trod _ Tryd.prog W 0 _ false m1 33 _ = some x0 from hh0)
    obtain ⟨k1, e1, i1, _⟩ := DataW.trod_int Tryd.underlying33 (show DataW.trod _ Tryd.prog W 0 _ false m1 33 _ = some x1 from hh1)
    obtain ⟨k2, e2, i2, _⟩ := DataW.trod_int Tryd.underlying33 (show DataW.trod _ Tryd.prog W 0 _ false m1 33 _ = some x2 from hh2)
    obtain ⟨k3, e3, i3, _⟩ := DataW.trod_int Tryd.underlying33 (show DataW.trod _ Tryd.prog W 0 _ false m1 33 _ = some x3 from hh3)
    have hk0 : k0 = 6346243789798364141 := by rw [i0] at hx1; simpa using hx1.1.1.symm
    have hk1 : k1 = 1503914060200516822 := by rw [i1] at hx1; simpa using hx1.1.2.1.symm
    have hk2 : k2 = 0 := by rw [i2] at hx1; simpa using hx1.1.2.2.1.symm
    have hk3 : k3 = 1152921504606846976 := by rw [i3] at hx1; simpa using hx1.1.2.2.2.1.symm
    subst hk0 hk1 hk2 hk3
    have v0 := World.var?_cell hg0 hv0 0
    have v1 := World.var?_cell hg0 hv0 1
    have v2 := World.var?_cell hg0 hv0 2
    have v3 := World.var?_cell hg0 hv0 3
    rw [c33] at e0 e1 e2 e3
    rw [c35] at hlen
    obtain ⟨l1⟩ := cs0
    match l1, hlen, e0, e1, e2, e3 with
    | [a, b, c, d], _, e0, e1, e2, e3 =>
      simp at e0 e1 e2 e3
      subst e0 e1 e2 e3
      have w0 : W.cell? ⟨0, 0, none⟩ = some (.int .u64 6346243789798364141) := by simpa using v0
      exact ⟨cell_block w0, w0, by simpa using v1, by simpa using v2, by simpa using v3⟩
end Go.Proofs.YtagjeideohplpaaDoor
