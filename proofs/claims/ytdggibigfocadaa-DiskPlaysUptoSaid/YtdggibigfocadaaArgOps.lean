/- An argument opened: a slice of calls, each of two ints, a byte and a []byte. No conditions. -/
import Derived.Test.YtdggibigfocadaaArgBytes
import Derived.Deep.SlicePairs
namespace Go.Proofs.Ytdggibigfocadaa
open Go.RowKit Go.ChangeShapes Go.WideShapes Go.Deep
section
variable {H : Type} {enc : TypeId × Value → H} {w : World} {base : Nat} {held : Bool}
/-- A call: its kind, its number, its byte, its choices. -/
abbrev OpQ := Int × Int × UInt8 × List UInt8
/-- Call number i lies in the arguments. -/
def OpAt (w : World) (B : Nat) (A : Option Addr) (i : Nat) (q : OpQ) : Prop :=
  ∃ b off A' c', A = some ⟨b, off, none⟩ ∧ b < B ∧ w.cell? ⟨b, off + i * 4, none⟩ = some (.int .i64 q.1) ∧ w.cell? ⟨b, off + (i * 4 + 1), none⟩ = some (.int .i64 q.2.1) ∧ w.cell? ⟨b, off + (i * 4 + 2), none⟩ = some (.int .u8 (q.2.2.1.toNat : Int)) ∧
    w.cell? ⟨b, off + (i * 4 + 3), none⟩ = some (.slice A' q.2.2.2.length c') ∧ Reads w B 1 A' q.2.2.2.length (bvs q.2.2.2)
def ArgOps (w : World) (v : Value) (l : List OpQ) : Prop :=
  ∃ A c, v = .slice A l.length c ∧ l.length ≤ 1048576 ∧ ∀ i q, l[i]? = some q → OpAt w w.heap.size A i q ∧ q.2.1 ≤ 9223372036854775807
variable {r : Reach} {b0 : Nat} {v : Value} {d : DataW H} {p : List MemPlace}
theorem cellsOp : Try.prog.cellsOf 47 = 4 := by kernel_rfl
theorem cellsInt : Try.prog.cellsOf 3 = 1 := by kernel_rfl
theorem cellsU8 : Try.prog.cellsOf 5 = 1 := by kernel_rfl
theorem cellsBs : Try.prog.cellsOf 35 = 1 := by kernel_rfl
set_option maxRecDepth 100000 in
theorem arg_ops (hv : Value.okWide Try.prog w r b0 42 v) (h : DataW.Trod enc Try.prog w base (fun _ => true) held 42 v d p) (hsmall : ∀ es sp, d = .slice es sp → es.length ≤ 1048576) : ∃ l, ArgOps w v l := by
  obtain ⟨fuel, hf⟩ := h
  obtain ⟨A', n', c', rfl⟩ := okWide_slice Try.underlying42 hv
  rcases open_slice Try.underlying42 hf with ⟨hcs, _⟩ | ⟨a, len, cap, m, n, D, Pl, hcs, _, hl, hm, hmm, hx, hi⟩
  · have hcs' : [Value.slice A' n' c'] = [Value.slice none 0 0] := hcs
    simp only [List.cons.injEq, Value.slice.injEq, and_true] at hcs'
    obtain ⟨rfl, rfl, rfl⟩ := hcs'
    exact ⟨[], none, 0, rfl, by simp, fun i q hq => by simp at hq⟩
  · have hcs' : [Value.slice A' n' c'] = [Value.slice (some a) len cap] := hcs
    simp only [List.cons.injEq, Value.slice.injEq, and_true] at hcs'
    obtain ⟨rfl, rfl, rfl⟩ := hcs'
    simp only [if_true] at hmm
    have hsm := hsmall _ _ (by injection hx)
    simp only [List.length_map, List.length_range] at hsm
    have each : ∀ i, i < n' → ∃ q : OpQ, OpAt w w.heap.size (some a) i q ∧ q.2.1 ≤ 9223372036854775807 := by
      intro i hin
      obtain ⟨cs', h1, h2⟩ := hi i (by omega)
      rw [cellsOp] at h1
      obtain ⟨_, hlen, hcell⟩ := World.cells?_some h1
      obtain ⟨xs, k, hk, hxy, _, hxl, hfl⟩ := DataW.trod_struct Try.underlying47 h2
      match xs, hxl, cs', hlen with
      | [y0, y1, y2, y3], _, [v0, v1, v2, v3], _ =>
        have g0 := hfl 0 _ rfl
        have g1 := hfl 1 _ rfl
        have g2 := hfl 2 _ rfl
        have g3 := hfl 3 _ rfl
        simp [cellsInt, cellsU8, cellsBs] at g0 g1 g2 g3
        have e0 := hcell 0 (by omega)
        have e1 := hcell 1 (by omega)
        have e2 := hcell 2 (by omega)
        have e3 := hcell 3 (by omega)
        rw [Go.Deep.add_add] at e0 e1 e2 e3
        obtain ⟨z0, f0, _, w0⟩ := DataW.trod_int Try.underlying3 g0
        obtain ⟨z1, f1, _, w1⟩ := DataW.trod_int Try.underlying3 g1
        obtain ⟨z2, f2, _, w2⟩ := DataW.trod_int Try.underlying5 g2
        obtain ⟨A3, c3, l3, f3, _, r3, _⟩ := open_bytes g3
        obtain ⟨b, off, spot⟩ := a
        have hs : spot = none := by
          obtain ⟨cs0, k1, _⟩ := hi 0 (by omega)
          rw [cellsOp] at k1
          obtain ⟨_, hlen0, hcell0⟩ := World.cells?_some k1
          have k2 := hcell0 0 (by omega)
          rw [Go.Deep.add_add] at k2
          have k3 : w.cell? ((⟨b, off, spot⟩ : Addr).add 0) = some (cs0[0]'(by omega)) := by simpa [List.getElem?_eq_getElem (show 0 < cs0.length by omega)] using k2
          simpa [Addr.add] using World.cell?_spot k3
        subst hs
        simp only [List.cons.injEq, and_true] at f0 f1 f2 f3
        subst f0 f1 f2 f3
        rw [add_none] at e0 e1 e2 e3
        have hz1 := bounds_i64 w1
        have hz2 := bounds_u8 w2
        refine ⟨(z0, z1, UInt8.ofNat z2.toNat, l3), ⟨b, off, A3, c3, rfl, World.block_lt_of_cell? w _ e0, by simpa using e0, by simpa using e1, ?_, by simpa using e3, r3⟩, by show z1 ≤ _; omega⟩
        have hu : ((UInt8.ofNat z2.toNat).toNat : Int) = z2 := by rw [UInt8.toNat_ofNat']; omega
        show w.cell? _ = some (.int .u8 ((UInt8.ofNat z2.toNat).toNat : Int))
        rw [hu]
        simpa using e2
    obtain ⟨q, hq⟩ := choose_lt each
    have hlen : ((List.range n').map q).length = n' := by simp
    refine ⟨(List.range n').map q, some a, c', by rw [hlen], by rw [hlen]; exact hsm, fun i y hy => ?_⟩
    have hin : i < n' := by
      have := (List.getElem?_eq_some_iff.1 hy).1
      rwa [hlen] at this
    have : y = q i := by simp [hin] at hy; exact hy.symm
    subst this
    exact hq i hin
end
end Go.Proofs.Ytdggibigfocadaa
