/- The texts ArgRoot ArgStep of this work, merged by wip/merge.py. No conditions. -/
import Derived.Test.YtbpgbihcihnieaaRows
import Derived.Test.YtbpgbihcihnieaaQLRoots
import Derived.ProofKit
import Derived.Test.YtbpgbihcihnieaaQW3
import Derived.Test.YtbpgbihcihnieaaQN1
namespace Go.Proofs.Ytbpgbihcihnieaa
open Go.ChangeShapes Go.WideShapes Go.ChangeAt Go.RowKit
def u8of : Value → UInt8
  | .int _ x => UInt8.ofNat x.toNat
  | _ => 0
def u64of : Value → Nat
  | .int _ x => x.toNat
  | _ => 0
set_option maxRecDepth 100000 in
theorem cell_u8 {w : World} {r : Reach} {b0 : Nat} {v : Value} (h : Cell.okWide Try.prog w r b0 5 v) : v = bv (u8of v) := by
  simp only [Cell.okWide, Try.underlying5, Cell.ok] at h
  cases v <;> simp_all
  rename_i k n
  obtain ⟨_, h⟩ := h
  simp only [IntKind.has] at h
  have h1 : (0 : Int) ≤ n := h.1
  have h2 : n ≤ 255 := h.2
  unfold bv u8of
  congr 1
  rw [UInt8.toNat_ofNat']
  omega
set_option maxRecDepth 100000 in
theorem cell_u64 {w : World} {r : Reach} {b0 : Nat} {v : Value} (h : Cell.okWide Try.prog w r b0 34 v) : v = .int .u64 (u64of v : Int) ∧ u64of v < 18446744073709551616 := by
  simp only [Cell.okWide, Try.underlying34, Cell.ok] at h
  cases v <;> simp_all
  rename_i k n
  obtain ⟨_, h⟩ := h
  simp only [IntKind.has] at h
  have h1 : (0 : Int) ≤ n := h.1
  have h2 : n ≤ 18446744073709551615 := h.2
  refine ⟨?_, ?_⟩
  · show n = ((n.toNat : Nat) : Int)
    omega
  · show n.toNat < _
    omega
set_option maxRecDepth 100000 in
theorem arg_root {w : World} {r : Reach} {b0 : Nat} {v : Value} (hv : Value.okWide Try.prog w r b0 47 v) : ∃ r : RootV, r.ok ∧ v = .agg r.cs := by
  have hts : Try.prog.cellTypes Try.prog.depth 47 = some ([34, 34, 34] ++ List.replicate 160 5) := by kernel_rfl
  have hn : Try.prog.cellsOf 47 = 163 := by kernel_rfl
  simp only [Value.okWide, Try.underlying47] at hv
  obtain ⟨cs, rfl, hsz, ts, hts', _, hc⟩ := hv
  rw [hts] at hts'
  obtain rfl := Option.some.inj hts'
  rw [hn] at hsz
  obtain ⟨xs, rfl⟩ : ∃ xs : List Value, cs = xs.toArray := ⟨cs.toList, by simp⟩
  have hlen : xs.length = 163 := by simpa using hsz
  obtain ⟨c0, c1, c2, rest, rfl⟩ : ∃ c0 c1 c2 rest, xs = c0 :: c1 :: c2 :: rest := by
    match xs, hlen with
    | c0 :: c1 :: c2 :: rest, _ => exact ⟨c0, c1, c2, rest, rfl⟩
  have hrest : rest.length = 160 := by simpa using hlen
  obtain ⟨u0, hu0, k0⟩ := hc 0 c0 (by simp)
  obtain ⟨u1, hu1, k1⟩ := hc 1 c1 (by simp)
  obtain ⟨u2, hu2, k2⟩ := hc 2 c2 (by simp)
  obtain rfl : 34 = u0 := Option.some.inj hu0
  obtain rfl : 34 = u1 := Option.some.inj hu1
  obtain rfl : 34 = u2 := Option.some.inj hu2
  have hb : rest = bvs (rest.map u8of) := by
    apply List.ext_getElem?
    intro i
    simp only [bvs, List.map_map, List.getElem?_map]
    cases hi : rest[i]? with
    | none => rfl
    | some x =>
      have hlt : i < 160 := by
        rcases Nat.lt_or_ge i 160 with h' | h'
        · exact h'
        · rw [List.getElem?_eq_none (by omega)] at hi; cases hi
      obtain ⟨u, hu', hx⟩ := hc (i + 3) x (by simpa using hi)
      have hts2 : ([34, 34, 34] ++ List.replicate 160 5 : List TypeId)[(i + 3) % 163]? = some 5 := by
        rw [Nat.mod_eq_of_lt (by omega), List.getElem?_append_right (by simp), List.getElem?_replicate]
        simp
        omega
      rw [show ([34, 34, 34] ++ List.replicate 160 5 : List TypeId).length = 163 from by simp] at hu'
      rw [hts2] at hu'
      obtain rfl := Option.some.inj hu'
      show some x = some (bv (u8of x))
      rw [← cell_u8 hx]
  obtain ⟨L, hL⟩ : ∃ L, L = rest.map u8of := ⟨_, rfl⟩
  have hLl : L.length = 160 := by rw [hL]; simpa using hrest
  rw [← hL] at hb
  have e0 := cell_u64 k0
  have e1 := cell_u64 k1
  have e2 := cell_u64 k2
  refine ⟨⟨u64of c0, u64of c1, u64of c2, L.take 32, (L.drop 32).take 32, (L.drop 64).take 32, L.drop 96⟩, ⟨e0.2, e1.2, e2.2, by simp [hLl], by simp [hLl], by simp [hLl], by simp [hLl]⟩, ?_⟩
  have hsplit : L = L.take 32 ++ ((L.drop 32).take 32 ++ ((L.drop 64).take 32 ++ L.drop 96)) := by
    rw [show L.drop 96 = (L.drop 64).drop 32 from by simp, List.take_append_drop, show L.drop 64 = (L.drop 32).drop 32 from by simp, List.take_append_drop, List.take_append_drop]
  have hbs : bvs L = bvs (L.take 32) ++ (bvs ((L.drop 32).take 32) ++ (bvs ((L.drop 64).take 32) ++ bvs (L.drop 96))) := by
    conv => lhs; rw [hsplit]
    simp only [bvs, List.map_append]
  unfold RootV.cs RootV.vs
  simp only
  rw [← hbs, ← hb, ← e0.1, ← e1.1, ← e2.1]
/-- An argument that is a root. -/
def ArgR (v : Value) (r : RootV) : Prop := r.ok ∧ v = .agg r.cs
set_option maxRecDepth 100000 in
theorem arg_rootv {H : Type} {enc : TypeId × Value → H} {w : World} {r : Reach} {b0 base : Nat} {held : Bool} {v : Value} {d : DataW H} {p : List MemPlace} (hv : Value.okWide Try.prog w r b0 47 v) (_h : DataW.Trod enc Try.prog w base (fun _ => true) held 47 v d p) (_hs : (d.weights Try.prog 47).all (· ≤ reachBytes) = true) : ∃ x, ArgR v x := by
  obtain ⟨x, h1, h2⟩ := arg_root hv
  exact ⟨x, h1, h2⟩
set_option maxRecDepth 100000 in
theorem WireRoots_walk (v0 v1 : Value) (r : RootV) (l : List UInt8) (w : World) (a0 : ArgR v0 r) (a1 : ArgB w v1 l) : Calls Try.prog 9 #[v0, v1] w fun e w' => e = .returned (.bool true) ∧ Below w.heap.size w w' := by
  obtain ⟨hr, rfl⟩ := a0
  cases hd : rootD l with
  | none => exact WireRoots_no r hr v1 l w a1 hd
  | some r' => exact WireRoots_yes r hr v1 l w a1 r' hd
end Go.Proofs.Ytbpgbihcihnieaa

namespace Go.Proofs.Ytbpgbihcihnieaa
open Go.ChangeShapes Go.WideShapes Go.ChangeAt Go.RowKit Go.Deep
section
variable {H : Type} {enc : TypeId × Value → H} {w : World} {base : Nat} {held : Bool}
set_option maxRecDepth 100000 in
theorem open_u8s {t : TypeId} {n fuel : Nat} {cs : List Value} {x : DataW H × List MemPlace} (ht : Try.prog.underlying t = some (.array n 5)) (hn : Try.prog.cellsOf t = n) (h : DataW.trod enc Try.prog w base (fun _ => true) held fuel t cs = some x) : ∃ l : List UInt8, l.length = n ∧ cs = bvs l := by
  obtain ⟨xs, m, _, _, hl, hx, hi⟩ := DataW.trod_array ht h
  rw [hn] at hl
  refine ⟨cs.map u8of, by simpa using hl, ?_⟩
  apply List.ext_getElem?
  intro i
  simp only [bvs, List.map_map, List.getElem?_map]
  rcases Nat.lt_or_ge i n with hin | hin
  · have h1 := hi i hin
    rw [cells8, Nat.mul_one, List.getElem?_eq_getElem (by omega)] at h1
    obtain ⟨z, h2, _, h3⟩ := DataW.trod_int Try.underlying5 h1
    have h4 : cs[i]? = some (.int .u8 z) := by
      have h5 : ((cs.drop i).take 1)[0]? = some (.int .u8 z) := by rw [h2]; rfl
      rw [List.getElem?_take, if_pos (by omega), List.getElem?_drop, Nat.add_zero] at h5
      exact h5
    have h6 := bounds_u8 h3
    rw [h4]
    have h7 : ((UInt8.ofNat z.toNat).toNat : Int) = z := by rw [UInt8.toNat_ofNat']; omega
    simp only [Option.map_some, Function.comp, bv, u8of]
    rw [h7]
  · rw [List.getElem?_eq_none (by omega)]; rfl
theorem cut_at {α : Type} (cs : List α) (a n : Nat) : cs.drop a = (cs.drop a).take n ++ cs.drop (a + n) := by
  rw [← List.drop_drop, List.take_append_drop]
theorem cells_node : Try.prog.cellsOf 118 = 65 := by kernel_rfl
theorem cells_leaf : Try.prog.cellsOf 108 = 64 := by kernel_rfl
theorem cells_link : Try.prog.cellsOf 121 = 96 := by kernel_rfl
theorem cells_root : Try.prog.cellsOf 47 = 163 := by kernel_rfl
theorem cells_step : Try.prog.cellsOf 66 = 166 := by kernel_rfl
theorem cells32 : Try.prog.cellsOf 44 = 32 := by kernel_rfl
theorem cells64 : Try.prog.cellsOf 45 = 64 := by kernel_rfl
theorem cellsI : Try.prog.cellsOf 3 = 1 := by kernel_rfl
theorem cellsU : Try.prog.cellsOf 34 = 1 := by kernel_rfl
theorem cellsN : Try.prog.cellsOf 53 = 1 := by kernel_rfl
theorem cellsA : Try.prog.cellsOf 63 = 1 := by kernel_rfl
theorem cellsL : Try.prog.cellsOf 64 = 1 := by kernel_rfl
set_option maxRecDepth 100000 in
theorem open_node {fuel : Nat} {cs : List Value} {x : DataW H × List MemPlace} (h : DataW.trod enc Try.prog w base (fun _ => true) held fuel 118 cs = some x) : ∃ v : NodeV, v.ok ∧ cs = v.vs := by
  obtain ⟨xs, m, _, _, hl, hx, hf⟩ := DataW.trod_struct Try.underlying118 h
  rw [cells_node] at hl
  match xs, hx with
  | [y0, y1, y2], _ =>
    have g0 := hf 0 _ rfl
    have g1 := hf 1 _ rfl
    have g2 := hf 2 _ rfl
    simp [cellsI, cells32] at g0 g1 g2
    obtain ⟨z, f0, _, w0⟩ := DataW.trod_int Try.underlying3 g0
    obtain ⟨l1, n1, f1⟩ := open_u8s Try.underlying44 cells32 g1
    obtain ⟨l2, n2, f2⟩ := open_u8s Try.underlying44 cells32 g2
    rw [← List.drop_one] at f1
    have hz := bounds_i64 w0
    refine ⟨⟨z, l1, l2⟩, ⟨by show _ ∧ _; omega, n1, n2⟩, ?_⟩
    have c0 := cut_at cs 0 1
    have c1 := cut_at cs 1 32
    have c2 := cut_at cs 33 32
    rw [List.drop_eq_nil_of_le (show cs.length ≤ 33 + 32 by omega), List.append_nil] at c2
    rw [List.drop_zero] at c0
    rw [c0, show 0 + 1 = 1 from rfl, c1, show 1 + 32 = 33 from rfl, c2]
    simp only [f0, f1, f2, NodeV.vs]
    rfl
set_option maxRecDepth 100000 in
theorem open_leaf {fuel : Nat} {cs : List Value} {x : DataW H × List MemPlace} (h : DataW.trod enc Try.prog w base (fun _ => true) held fuel 108 cs = some x) : ∃ l : List UInt8, l.length = 64 ∧ cs = bvs l := by
  obtain ⟨xs, m, _, _, hl, hx, hf⟩ := DataW.trod_struct Try.underlying108 h
  rw [cells_leaf] at hl
  match xs, hx with
  | [y0, y1], _ =>
    have g0 := hf 0 _ rfl
    have g1 := hf 1 _ rfl
    simp [cells32] at g0 g1
    obtain ⟨l0, n0, f0⟩ := open_u8s Try.underlying44 cells32 g0
    obtain ⟨l1, n1, f1⟩ := open_u8s Try.underlying44 cells32 g1
    refine ⟨l0 ++ l1, by simp [n0, n1], ?_⟩
    have c0 := cut_at cs 0 32
    have c1 := cut_at cs 32 32
    rw [List.drop_eq_nil_of_le (show cs.length ≤ 32 + 32 by omega), List.append_nil] at c1
    rw [List.drop_zero] at c0
    rw [c0, show 0 + 32 = 32 from rfl, c1, bvs_append, f0, f1]
set_option maxRecDepth 100000 in
theorem open_link {fuel : Nat} {cs : List Value} {x : DataW H × List MemPlace} (h : DataW.trod enc Try.prog w base (fun _ => true) held fuel 121 cs = some x) : ∃ l : List UInt8, l.length = 96 ∧ cs = bvs l := by
  obtain ⟨xs, m, _, _, hl, hx, hf⟩ := DataW.trod_struct Try.underlying121 h
  rw [cells_link] at hl
  match xs, hx with
  | [y0, y1, y2], _ =>
    have g0 := hf 0 _ rfl
    have g1 := hf 1 _ rfl
    have g2 := hf 2 _ rfl
    simp [cells32] at g0 g1 g2
    obtain ⟨l0, n0, f0⟩ := open_u8s Try.underlying44 cells32 g0
    obtain ⟨l1, n1, f1⟩ := open_u8s Try.underlying44 cells32 g1
    obtain ⟨l2, n2, f2⟩ := open_u8s Try.underlying44 cells32 g2
    refine ⟨l0 ++ (l1 ++ l2), by simp [n0, n1, n2], ?_⟩
    have c0 := cut_at cs 0 32
    have c1 := cut_at cs 32 32
    have c2 := cut_at cs 64 32
    rw [List.drop_eq_nil_of_le (show cs.length ≤ 64 + 32 by omega), List.append_nil] at c2
    rw [List.drop_zero] at c0
    rw [c0, show 0 + 32 = 32 from rfl, c1, show 32 + 32 = 64 from rfl, c2, bvs_append, bvs_append, f0, f1, f2]
theorem nat_u64 {t : TypeId} {fuel : Nat} {cs : List Value} {x : DataW H × List MemPlace} (ht : Try.prog.underlying t = some (.int .u64)) (h : DataW.trod enc Try.prog w base (fun _ => true) held fuel t cs = some x) : ∃ n : Nat, n < 18446744073709551616 ∧ cs = [.int .u64 (n : Int)] := by
  obtain ⟨z, f0, _, w0⟩ := DataW.trod_int ht h
  have hz := bounds_u64 w0
  exact ⟨z.toNat, by omega, by rw [f0, Int.toNat_of_nonneg hz.1]⟩
set_option maxRecDepth 100000 in
theorem open_root {fuel : Nat} {cs : List Value} {x : DataW H × List MemPlace} (h : DataW.trod enc Try.prog w base (fun _ => true) held fuel 47 cs = some x) : ∃ r : RootV, r.ok ∧ cs = r.vs := by
  obtain ⟨xs, m, _, _, hl, hx, hf⟩ := DataW.trod_struct Try.underlying47 h
  rw [cells_root] at hl
  match xs, hx with
  | [y0, y1, y2, y3, y4, y5, y6], _ =>
    have g0 := hf 0 _ rfl
    have g1 := hf 1 _ rfl
    have g2 := hf 2 _ rfl
    have g3 := hf 3 _ rfl
    have g4 := hf 4 _ rfl
    have g5 := hf 5 _ rfl
    have g6 := hf 6 _ rfl
    simp [cells32, cells64, cellsU] at g0 g1 g2 g3 g4 g5 g6
    obtain ⟨a0, b0, f0⟩ := nat_u64 Try.underlying34 g0
    obtain ⟨a1, b1, f1⟩ := nat_u64 Try.underlying34 g1
    obtain ⟨a2, b2, f2⟩ := nat_u64 Try.underlying34 g2
    obtain ⟨l3, n3, f3⟩ := open_u8s Try.underlying44 cells32 g3
    obtain ⟨l4, n4, f4⟩ := open_u8s Try.underlying44 cells32 g4
    obtain ⟨l5, n5, f5⟩ := open_u8s Try.underlying44 cells32 g5
    obtain ⟨l6, n6, f6⟩ := open_u8s Try.underlying45 cells64 g6
    rw [← List.drop_one] at f1
    refine ⟨⟨a0, a1, a2, l3, l4, l5, l6⟩, ⟨b0, b1, b2, n3, n4, n5, n6⟩, ?_⟩
    have c0 := cut_at cs 0 1
    have c1 := cut_at cs 1 1
    have c2 := cut_at cs 2 1
    have c3 := cut_at cs 3 32
    have c4 := cut_at cs 35 32
    have c5 := cut_at cs 67 32
    have c6 := cut_at cs 99 64
    rw [List.drop_eq_nil_of_le (show cs.length ≤ 99 + 64 by omega), List.append_nil] at c6
    rw [List.drop_zero] at c0
    rw [c0, show 0 + 1 = 1 from rfl, c1, show 1 + 1 = 2 from rfl, c2, show 2 + 1 = 3 from rfl, c3, show 3 + 32 = 35 from rfl, c4, show 35 + 32 = 67 from rfl, c5, show 67 + 32 = 99 from rfl, c6]
    simp only [f0, f1, f2, f3, f4, f5, f6, RootV.vs]
    rfl
theorem flat_len {V : Nat → List Value} {s : Nat} : ∀ n, (∀ i, i < n → (V i).length = s) → ((List.range n).flatMap V).length = n * s
  | 0, _ => by simp
  | n + 1, h => by
    rw [List.range_succ, List.flatMap_append, List.length_append, flat_len n (fun i hi => h i (by omega))]
    simp [h n (by omega), Nat.succ_mul]
theorem flat_at {V : Nat → List Value} {s : Nat} : ∀ n, (∀ i, i < n → (V i).length = s) → ∀ i r, i < n → r < s → ((List.range n).flatMap V)[i * s + r]? = (V i)[r]?
  | 0, _, _, _, h, _ => absurd h (by omega)
  | n + 1, h, i, r, hi, hr => by
    have hl := flat_len n (fun i hi => h i (by omega))
    rw [List.range_succ, List.flatMap_append]
    rcases Nat.lt_or_ge i n with h1 | h1
    · have h2 : i * s + r < n * s := by
        have := Nat.mul_le_mul_right s (show i + 1 ≤ n from h1)
        rw [Nat.succ_mul] at this
        omega
      rw [List.getElem?_append_left (by omega)]
      exact flat_at n (fun i hi => h i (by omega)) i r h1 hr
    · obtain rfl : i = n := by omega
      rw [List.getElem?_append_right (by omega), hl]
      simp
theorem open_rows {t e : TypeId} {s fuel : Nat} {cs : List Value} {x : DataW H × List MemPlace} (ht : Try.prog.underlying t = some (.slice e)) (hs : Try.prog.cellsOf e = s) (hs0 : 0 < s) (h : DataW.trod enc Try.prog w base (fun _ => true) held fuel t cs = some x) :
    ∃ A n c V, cs = [.slice A n c] ∧ (∀ i, i < n → (V i).length = s ∧ ∃ f y, DataW.trod enc Try.prog w base (fun _ => true) held f e (V i) = some y) ∧ Reads w w.heap.size s A n ((List.range n).flatMap V) ∧ ∀ R, (x.1.weights Try.prog t).all (· ≤ R) = true → n * Try.prog.bytesOf e ≤ R := by
  rcases open_slice ht h with ⟨hcs, _⟩ | ⟨a, len, cap, m, n, D, Pl, hcs, _, hl, hm, hmm, hx, hi⟩
  · exact ⟨none, 0, 0, fun _ => [], hcs, fun i hi => absurd hi (by omega), by rw [List.range_zero]; exact ⟨by simp, fun h0 => absurd h0 (by omega)⟩, fun R _ => by omega⟩
  · simp only [if_true] at hmm
    subst hmm
    have each : ∀ i, i < m → ∃ cs' : List Value, cs'.length = s ∧ (∀ j, j < s → w.cell? (a.add (i * s + j)) = cs'[j]?) ∧ ∃ f y, DataW.trod enc Try.prog w base (fun _ => true) held f e cs' = some y := fun i hin => by
      obtain ⟨cs', h1, h2⟩ := hi i hin
      rw [hs] at h1
      obtain ⟨_, hlen, hcell⟩ := World.cells?_some h1
      exact ⟨cs', hlen, fun j hj => by have h3 := hcell j hj; rw [Go.Deep.add_add] at h3; exact h3, _, _, h2⟩
    obtain ⟨V, hV⟩ := choose_lt each
    refine ⟨some a, len, m, V, hcs, fun i hin => ⟨(hV i (by omega)).1, (hV i (by omega)).2.2⟩, ⟨flat_len len (fun i hin => (hV i (by omega)).1), fun h0 => ⟨a, rfl, ?_, fun j u hu => ?_⟩⟩, fun R hR => ?_⟩
    · have h1 := (hV 0 (by omega)).2.1 0 hs0
      rw [List.getElem?_eq_getElem (by rw [(hV 0 (by omega)).1]; exact hs0)] at h1
      have h2 := World.block_lt_of_cell? w _ h1
      rwa [block_of_add] at h2
    · have hj : j < len * s := by
        have h1 := (List.getElem?_eq_some_iff.1 hu).1
        rwa [flat_len len (fun i hin => (hV i (by omega)).1)] at h1
      have hd : j / s < len := Nat.div_lt_of_lt_mul (by rw [Nat.mul_comm]; exact hj)
      have hr : j % s < s := Nat.mod_lt _ hs0
      have he : j / s * s + j % s = j := by rw [Nat.mul_comm]; exact Nat.div_add_mod j s
      have h1 := flat_at len (fun i hin => (hV i (by omega)).1) (j / s) (j % s) hd hr
      have h2 := (hV (j / s) (by omega)).2.1 (j % s) hr
      rw [he] at h1 h2
      rw [h2, ← h1]
      exact hu
    · rw [hx] at hR
      have h1 := List.all_eq_true.1 hR (m * Try.prog.bytesOf e) (by unfold DataW.weights; simp only [ht]; exact List.mem_cons.2 (.inl (congrArg (· * _) (by simp; omega))))
      exact Nat.le_trans (Nat.mul_le_mul_right _ hl) (of_decide_eq_true h1)
theorem flat_bvs {V : Nat → List Value} {s : Nat} (n : Nat) (h : ∀ i, i < n → ∃ l : List UInt8, l.length = s ∧ V i = bvs l) : ∃ bs : List UInt8, bs.length = n * s ∧ (List.range n).flatMap V = bvs bs := by
  induction n with
  | zero => exact ⟨[], by simp, rfl⟩
  | succ n ih =>
    obtain ⟨bs, h1, h2⟩ := ih (fun i hi => h i (by omega))
    obtain ⟨l, h3, h4⟩ := h n (by omega)
    refine ⟨bs ++ l, by simp [h1, h3, Nat.succ_mul], ?_⟩
    rw [List.range_succ, List.flatMap_append, h2, bvs_append]
    simp [h4]
theorem flat_nodes {V : Nat → List Value} (n : Nat) (h : ∀ i, i < n → ∃ v : NodeV, v.ok ∧ V i = v.vs) : ∃ ns : List NodeV, ns.length = n ∧ (∀ v ∈ ns, v.ok) ∧ (List.range n).flatMap V = nodesV ns := by
  induction n with
  | zero => exact ⟨[], rfl, by simp, rfl⟩
  | succ n ih =>
    obtain ⟨ns, h1, h2, h3⟩ := ih (fun i hi => h i (by omega))
    obtain ⟨v, h4, h5⟩ := h n (by omega)
    refine ⟨ns ++ [v], by simp [h1], fun u hu => ?_, ?_⟩
    · rcases List.mem_append.1 hu with h6 | h6
      · exact h2 u h6
      · simp at h6; subst h6; exact h4
    · rw [List.range_succ, List.flatMap_append, h3]
      simp [h5, nodesV]
abbrev StepQ := RootV × List NodeV × List UInt8 × List UInt8
def ArgStep (w : World) (v : Value) (q : StepQ) : Prop := ∃ cs An Aa Al cn na ca nl cl, v = .agg cs ∧ StepIn w cs q.1 q.2.1 q.2.2.1 q.2.2.2 An Aa Al cn na ca nl cl
variable {r : Reach} {b0 : Nat} {v : Value} {d : DataW H} {p : List MemPlace}
set_option maxRecDepth 100000 in
theorem arg_step (hv : Value.okWide Try.prog w r b0 66 v) (h : DataW.Trod enc Try.prog w base (fun _ => true) held 66 v d p) (hs : (d.weights Try.prog 66).all (· ≤ reachBytes) = true) : ∃ q, ArgStep w v q := by
  obtain ⟨fuel, hf⟩ := h
  simp only [Value.okWide, Try.underlying66] at hv
  obtain ⟨cs, rfl, _, _, _, _, _⟩ := hv
  obtain ⟨xs, m, _, hxd, hl, hx, hfl⟩ := DataW.trod_struct Try.underlying66 hf
  rw [cells_step] at hl
  match xs, hx with
  | [y0, y1, y2, y3], _ =>
    have g0 : DataW.trod enc Try.prog w base (fun _ => true) held m 47 ((cs.toList.drop 0).take (Try.prog.cellsOf 47)) = some y0 := hfl 0 _ rfl
    have g1 : DataW.trod enc Try.prog w base (fun _ => true) held m 53 ((cs.toList.drop 163).take (Try.prog.cellsOf 53)) = some y1 := hfl 1 _ rfl
    have g2 : DataW.trod enc Try.prog w base (fun _ => true) held m 63 ((cs.toList.drop 164).take (Try.prog.cellsOf 63)) = some y2 := hfl 2 _ rfl
    have g3 : DataW.trod enc Try.prog w base (fun _ => true) held m 64 ((cs.toList.drop 165).take (Try.prog.cellsOf 64)) = some y3 := hfl 3 _ rfl
    rw [cells_root] at g0
    rw [cellsN] at g1
    rw [cellsA] at g2
    rw [cellsL] at g3
    obtain ⟨r0, ok0, f0⟩ := open_root g0
    obtain ⟨An, nn, cn, V1, f1, v1, R1, W1⟩ := open_rows Try.underlying53 cells_node (by decide) g1
    obtain ⟨Aa, na, ca, V2, f2, v2, R2, W2⟩ := open_rows Try.underlying63 cells_leaf (by decide) g2
    obtain ⟨Al, nl, cl, V3, f3, v3, R3, W3⟩ := open_rows Try.underlying64 cells_link (by decide) g3
    obtain ⟨ns, k1, k2, k3⟩ := flat_nodes nn (fun i hi => by obtain ⟨_, f, y, h1⟩ := v1 i hi; exact open_node h1)
    obtain ⟨ad, j1, j2⟩ := flat_bvs na (fun i hi => by obtain ⟨_, f, y, h1⟩ := v2 i hi; exact open_leaf h1)
    obtain ⟨lk, i1, i2⟩ := flat_bvs nl (fun i hi => by obtain ⟨_, f, y, h1⟩ := v3 i hi; exact open_link h1)
    have hd : d = .agg [y0.1, y1.1, y2.1, y3.1] := by injection hxd
    rw [hd] at hs
    have hR := List.all_eq_true.1 hs
    have b1 := W1 reachBytes (List.all_eq_true.2 fun u hu => hR u (by simp only [DataW.weights, Try.underlying66]; simp [DataW.weightsEach]; exact .inr (.inl hu)))
    have b2 := W2 reachBytes (List.all_eq_true.2 fun u hu => hR u (by simp only [DataW.weights, Try.underlying66]; simp [DataW.weightsEach]; exact .inr (.inr (.inl hu))))
    have b3 := W3 reachBytes (List.all_eq_true.2 fun u hu => hR u (by simp only [DataW.weights, Try.underlying66]; simp [DataW.weightsEach]; exact .inr (.inr (.inr hu))))
    rw [show Try.prog.bytesOf 118 = 72 from by kernel_rfl, reach_eq] at b1
    rw [show Try.prog.bytesOf 108 = 64 from by kernel_rfl, reach_eq] at b2
    rw [show Try.prog.bytesOf 121 = 96 from by kernel_rfl, reach_eq] at b3
    subst k1
    rw [k3] at R1
    rw [j2] at R2
    rw [i2] at R3
    refine ⟨⟨r0, ns, ad, lk⟩, cs, An, Aa, Al, cn, na, ca, nl, cl, rfl, ⟨?_, ok0, ⟨k2, R1⟩, by show ns.length ≤ _; omega, R2, by show ad.length ≤ _; omega, R3, by show lk.length ≤ _; omega⟩⟩
    have c0 := cut_at cs.toList 0 163
    have c1 := cut_at cs.toList 163 1
    have c2 := cut_at cs.toList 164 1
    have c3 := cut_at cs.toList 165 1
    have hl' : cs.toList.length = 166 := hl
    rw [List.drop_eq_nil_of_le (show cs.toList.length ≤ 165 + 1 by omega), List.append_nil] at c3
    rw [List.drop_zero] at c0
    apply Array.toList_inj.1
    have F0 : cs.toList.take 163 = r0.vs := by simpa using f0
    have F1 : (cs.toList.drop 163).take 1 = [.slice An ns.length cn] := f1
    have F2 : (cs.toList.drop 164).take 1 = [.slice Aa na ca] := f2
    have F3 : (cs.toList.drop 165).take 1 = [.slice Al nl cl] := f3
    rw [c0, show 0 + 163 = 163 from rfl, c1, show 163 + 1 = 164 from rfl, c2, show 164 + 1 = 165 from rfl, c3, F0, F1, F2, F3]
    simp
end
end Go.Proofs.Ytbpgbihcihnieaa
