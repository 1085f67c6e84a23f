/- A pending write built out of its place and its bytes. No conditions. -/
import Derived.Test.YtdggibigfocadaaD5
import Derived.Great.FillDense
import Derived.Great.BuildSlice
namespace Go.Proofs.Ytdggibigfocadaa
open Go.RowKit
theorem fill_two (p : Nat → Option (Nat × Nat)) (z : Array Value) (v : Value) (l : List Value) (hv : v.cells = #[v]) (hz : z.size = 65) (hl : l.length = 64) (h0 : p 0 = some (0, 1)) (h1 : p 1 = some (1, 64)) :
    Instr.fill p z [(0, v), (1, .agg l.toArray)] = some (v :: l).toArray := by
  unfold Instr.fill
  rw [h0]
  simp only [hv]
  rw [if_neg (by simp [hz])]
  unfold Instr.fill
  rw [h1]
  have e1 : (#[v].zipIdx.foldl (fun cs (x : Value × Nat) => cs.setIfInBounds (0 + x.2) x.1) z) = z.setIfInBounds 0 v := by simp
  have hc : (Value.agg l.toArray).cells = l.toArray := rfl
  rw [e1]
  dsimp only
  split
  · rename_i h
    exact absurd h (by simp [hl, hz, Value.cells])
  unfold Instr.fill
  rw [hc]
  congr 1
  obtain ⟨f1, f2⟩ := Go.Great.foldl_set 1 l 0 (z.setIfInBounds 0 v)
  have e2 : l.toArray.zipIdx.foldl (fun cs (x : Value × Nat) => cs.setIfInBounds (1 + x.2) x.1) (z.setIfInBounds 0 v) = (l.zipIdx 0).foldl (fun cs (x : Value × Nat) => cs.setIfInBounds (1 + x.2) x.1) (z.setIfInBounds 0 v) := by
    simp
  rw [e2]
  apply Array.ext_getElem?
  intro k
  rw [f2]
  by_cases hk : k = 0
  · subst hk; simp [hz]
  · obtain ⟨k, rfl⟩ : ∃ j, k = j + 1 := ⟨k - 1, by omega⟩
    by_cases hlt : k < 64
    · rw [if_pos (by simp [hz, hl]; omega)]
      simp
    · have hs : (z.setIfInBounds 0 v).size = 65 := by simp [hz]
      rw [if_neg (by rw [hs]; omega), Array.getElem?_eq_none (by rw [hs]; omega), Array.getElem?_eq_none (by rw [List.size_toArray, List.length_cons, hl]; omega)]
theorem built_pending (n : Int) (d : List UInt8) (hd : d.length = 64) : Try.prog.built 56 [(0, .int .i64 n), (1, .agg (bvs d).toArray)] = some (Value.int .i64 n :: bvs d).toArray := by
  obtain ⟨i0, hi0, hz0, hz1, hz2⟩ := info_parts peninfo
  have hp : (Try.prog.built 56 [(0, .int .i64 n), (1, .agg (bvs d).toArray)]) = Instr.fill ((#[(0, 1), (1, 64)] : Array (Nat × Nat))[·]?) (Value.agg (Value.int .i64 0 :: bvs (List.replicate 64 0)).toArray).cells [(0, .int .i64 n), (1, .agg (bvs d).toArray)] := by
    kernel_rfl
  rw [hp]
  exact fill_two _ _ _ _ rfl (by simp [Value.cells, bvs]) (by rw [bvs_length]; exact hd) rfl rfl
theorem buildP {ops : Array Oper} {rest : List Oper} {o : Oper} {a : Act} {w : World} {Q : Exit → Act → World → Prop} {x y : Operand} {n : Int} {d : List UInt8} (hg : o.guard = none) (ho : o.op = .build 56 #[(0, x), (1, y)])
    (hx : a.eval x = .int .i64 n) (hy : a.eval y = .agg (bvs d).toArray) (hd : d.length = 64) (h : wpList Try.prog ops Q rest (a.put o.dst (.agg (Value.int .i64 n :: bvs d).toArray)) w) : wpList Try.prog ops Q (o :: rest) a w := by
  have hb : Try.prog.built 56 ((#[(0, x), (1, y)] : Array (Nat × Operand)).map fun (i, x) => (i, a.eval x)).toList = some (Value.int .i64 n :: bvs d).toArray := by
    simp only [List.map_toArray, List.map_cons, List.map_nil, hx, hy]
    exact built_pending n d hd
  refine wpList_plain hg fun K hK => wp_build _ _ ho (by rw [hb]; rfl) ?_
  rw [hb]
  exact hK _ _ h
theorem sliceP {ops : Array Oper} {rest : List Oper} {o : Oper} {a : Act} {w : World} {Q : Exit → Act → World → Prop} {x : Operand} {cs : List Value} (hg : o.guard = none) (ho : o.op = .buildSlice 51 1 #[(0, x)])
    (hx : a.eval x = .agg cs.toArray) (hl : cs.length = 65) (h : wpList Try.prog ops Q rest (a.put o.dst (.slice (some ⟨w.heap.size, 0, none⟩) 1 1)) (w.alloc (.cells cs.toArray 56))) : wpList Try.prog ops Q (o :: rest) a w := by
  obtain ⟨i0, hi0, hz0, hz1, hz2⟩ := info_parts peninfo
  refine wpList_buildSlice hg _ _ 1 _ ho cs.toArray i0 _ Try.underlying51 hi0 hz0 (by rw [hz1]; omega) (by rw [hz1]; omega) ?_ h
  simp only [List.map_toArray, List.map_cons, List.map_nil, hx, hz1]
  have := Go.Great.fill_whole (s := 65) (by omega) [Value.agg cs.toArray] ((Array.range (1 * 65)).map ((Value.agg (Value.int .i64 0 :: bvs (List.replicate 64 0)).toArray).cells[· % (Value.agg (Value.int .i64 0 :: bvs (List.replicate 64 0)).toArray).cells.size]!)) (fun v hv => by simp at hv; subst hv; simp [Value.cells, hl]) (by simp)
  refine this.trans ?_
  simp [Value.cells]
end Go.Proofs.Ytdggibigfocadaa
