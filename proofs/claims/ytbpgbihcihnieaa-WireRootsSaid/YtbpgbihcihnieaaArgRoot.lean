/- An argument that is a root. No conditions. -/
import Derived.Test.YtbpgbihcihnieaaRows
import Derived.Test.YtbpgbihcihnieaaLRoots
import Derived.ProofKit
import Derived.Test.YtbpgbihcihnieaaArgs
namespace Go.Proofs.Ytbpgbihcihnieaa
open Go.ChangeShapes Go.WideShapes Go.ChangeAt Go.RowKit
def u8of : Value → UInt8
  | .int _ x => UInt8.ofNat x.toNat
  | _ => 0
def u64of : Value → Nat
  | .int _ x => x.toNat
  | _ => 0
set_option maxRecDepth 100000 in
theorem cell_u8 {w : World} {r : Reach} {b0 : Nat} {v : Value} (h : Cell.okWide Try.prog w r b0 5 v) : v = bv (u8of v) := by
  simp only [Cell.okWide, Try.underlying5, Cell.ok] at h
  cases v <;> simp_all
  rename_i k n
  obtain ⟨_, h⟩ := h
  simp only [IntKind.has] at h
  have h1 : (0 : Int) ≤ n := h.1
  have h2 : n ≤ 255 := h.2
  unfold bv u8of
  congr 1
  rw [UInt8.toNat_ofNat']
  omega
set_option maxRecDepth 100000 in
theorem cell_u64 {w : World} {r : Reach} {b0 : Nat} {v : Value} (h : Cell.okWide Try.prog w r b0 34 v) : v = .int .u64 (u64of v : Int) ∧ u64of v < 18446744073709551616 := by
  simp only [Cell.okWide, Try.underlying34, Cell.ok] at h
  cases v <;> simp_all
  rename_i k n
  obtain ⟨_, h⟩ := h
  simp only [IntKind.has] at h
  have h1 : (0 : Int) ≤ n := h.1
  have h2 : n ≤ 18446744073709551615 := h.2
  refine ⟨?_, ?_⟩
  · show n = ((n.toNat : Nat) : Int)
    omega
  · show n.toNat < _
    omega
set_option maxRecDepth 100000 in
theorem arg_root {w : World} {r : Reach} {b0 : Nat} {v : Value} (hv : Value.okWide Try.prog w r b0 47 v) : ∃ r : RootV, r.ok ∧ v = .agg r.cs := by
  have hts : Try.prog.cellTypes Try.prog.depth 47 = some ([34, 34, 34] ++ List.replicate 160 5) := by kernel_rfl
  have hn : Try.prog.cellsOf 47 = 163 := by kernel_rfl
  simp only [Value.okWide, Try.underlying47] at hv
  obtain ⟨cs, rfl, hsz, ts, hts', _, hc⟩ := hv
  rw [hts] at hts'
  obtain rfl := Option.some.inj hts'
  rw [hn] at hsz
  obtain ⟨xs, rfl⟩ : ∃ xs : List Value, cs = xs.toArray := ⟨cs.toList, by simp⟩
  have hlen : xs.length = 163 := by simpa using hsz
  obtain ⟨c0, c1, c2, rest, rfl⟩ : ∃ c0 c1 c2 rest, xs = c0 :: c1 :: c2 :: rest := by
    match xs, hlen with
    | c0 :: c1 :: c2 :: rest, _ => exact ⟨c0, c1, c2, rest, rfl⟩
  have hrest : rest.length = 160 := by simpa using hlen
  obtain ⟨u0, hu0, k0⟩ := hc 0 c0 (by simp)
  obtain ⟨u1, hu1, k1⟩ := hc 1 c1 (by simp)
  obtain ⟨u2, hu2, k2⟩ := hc 2 c2 (by simp)
  obtain rfl : 34 = u0 := Option.some.inj hu0
  obtain rfl : 34 = u1 := Option.some.inj hu1
  obtain rfl : 34 = u2 := Option.some.inj hu2
  have hb : rest = bvs (rest.map u8of) := by
    apply List.ext_getElem?
    intro i
    simp only [bvs, List.map_map, List.getElem?_map]
    cases hi : rest[i]? with
    | none => rfl
    | some x =>
      have hlt : i < 160 := by
        rcases Nat.lt_or_ge i 160 with h' | h'
        · exact h'
        · rw [List.getElem?_eq_none (by omega)] at hi; cases hi
      obtain ⟨u, hu', hx⟩ := hc (i + 3) x (by simpa using hi)
      have hts2 : ([34, 34, 34] ++ List.replicate 160 5 : List TypeId)[(i + 3) % 163]? = some 5 := by
        rw [Nat.mod_eq_of_lt (by omega), List.getElem?_append_right (by simp), List.getElem?_replicate]
        simp
        omega
      rw [show ([34, 34, 34] ++ List.replicate 160 5 : List TypeId).length = 163 from by simp] at hu'
      rw [hts2] at hu'
      obtain rfl := Option.some.inj hu'
      show some x = some (bv (u8of x))
      rw [← cell_u8 hx]
  obtain ⟨L, hL⟩ : ∃ L, L = rest.map u8of := ⟨_, rfl⟩
  have hLl : L.length = 160 := by rw [hL]; simpa using hrest
  rw [← hL] at hb
  have e0 := cell_u64 k0
  have e1 := cell_u64 k1
  have e2 := cell_u64 k2
  refine ⟨⟨u64of c0, u64of c1, u64of c2, L.take 32, (L.drop 32).take 32, (L.drop 64).take 32, L.drop 96⟩, ⟨e0.2, e1.2, e2.2, by simp [hLl], by simp [hLl], by simp [hLl], by simp [hLl]⟩, ?_⟩
  have hsplit : L = L.take 32 ++ ((L.drop 32).take 32 ++ ((L.drop 64).take 32 ++ L.drop 96)) := by
    rw [show L.drop 96 = (L.drop 64).drop 32 from by simp, List.take_append_drop, show L.drop 64 = (L.drop 32).drop 32 from by simp, List.take_append_drop, List.take_append_drop]
  have hbs : bvs L = bvs (L.take 32) ++ (bvs ((L.drop 32).take 32) ++ (bvs ((L.drop 64).take 32) ++ bvs (L.drop 96))) := by
    conv => lhs; rw [hsplit]
    simp only [bvs, List.map_append]
  unfold RootV.cs RootV.vs
  simp only
  rw [← hbs, ← hb, ← e0.1, ← e1.1, ← e2.1]
/-- An argument that is a root. -/
def ArgR (v : Value) (r : RootV) : Prop := r.ok ∧ v = .agg r.cs
set_option maxRecDepth 100000 in
theorem arg_rootv {H : Type} {enc : TypeId × Value → H} {w : World} {r : Reach} {b0 base : Nat} {held : Bool} {v : Value} {d : DataW H} {p : List MemPlace} (hv : Value.okWide Try.prog w r b0 47 v) (_h : DataW.Trod enc Try.prog w base (fun _ => true) held 47 v d p) (_hs : (d.weights Try.prog 47).all (· ≤ reachBytes) = true) : ∃ x, ArgR v x := by
  obtain ⟨x, h1, h2⟩ := arg_root hv
  exact ⟨x, h1, h2⟩
set_option maxRecDepth 100000 in
theorem WireRoots_walk (v0 v1 : Value) (r : RootV) (l : List UInt8) (w : World) (a0 : ArgR v0 r) (a1 : ArgB w v1 l) : Calls Try.prog 9 #[v0, v1] w fun e w' => e = .returned (.bool true) ∧ Below w.heap.size w w' := by
  obtain ⟨hr, rfl⟩ := a0
  cases hd : rootD l with
  | none => exact WireRoots_no r hr v1 l w a1 hd
  | some r' => exact WireRoots_yes r hr v1 l w a1 r' hd
end Go.Proofs.Ytbpgbihcihnieaa
