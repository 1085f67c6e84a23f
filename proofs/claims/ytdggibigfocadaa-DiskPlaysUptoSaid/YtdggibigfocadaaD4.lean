/- The walk of disk.New. No conditions. -/
import Derived.Test.YtdggibigfocadaaD3
namespace Go.Proofs.Ytdggibigfocadaa
open Go.RowKit
theorem secinfo : (Try.prog.info? 28).map (fun i => (i.zero, i.size, i.bytes)) = some (some (.agg (bvs (List.replicate 64 0)).toArray), 64, 64) := by kernel_rfl
theorem peninfo : (Try.prog.info? 56).map (fun i => (i.zero, i.size, i.bytes)) = some (some (.agg (Value.int .i64 0 :: bvs (List.replicate 64 0)).toArray), 65, 72) := by kernel_rfl
def DS.fresh (n : Nat) : DS := ⟨List.replicate n (List.replicate 64 0), [], false, false, false, 0⟩
theorem bvs_zero (n : Nat) : bvs (List.replicate n 0) = List.replicate n (.int .u8 0) := by simp [bvs, bv]
theorem cellsS_fresh (n : Nat) : cellsS (List.replicate n (List.replicate 64 0)) = List.replicate (n * 64) (.int .u8 0) := by
  induction n with
  | zero => rfl
  | succ n ih =>
    show bvs (List.replicate 64 0) ++ cellsS (List.replicate n (List.replicate 64 0)) = _
    rw [ih, bvs_zero, List.replicate_append_replicate]
    congr 1; omega
theorem made_rep (m : Nat) (hm : 0 < m) (v : Value) (n : Nat) : (madeCells (List.replicate m v).toArray n).toList = List.replicate n v := by
  have key : ∀ j, j < m → ((List.replicate m v).toArray)[j]! = v := by
    intro j hj
    rw [getElem!_pos _ _ (by simpa using hj)]
    simp
  have hs : (List.replicate m v).toArray.size = m := by simp
  unfold madeCells
  rw [hs]
  apply List.ext_getElem
  · simp
  · intro i h1 h2
    simp only [Array.toList_map, List.getElem_map, List.getElem_replicate]
    exact key _ (Nat.mod_lt _ hm)
theorem made_fresh (n : Nat) : (madeCells (Value.agg (bvs (List.replicate 64 0)).toArray).cells (n * 64)).toList = cellsS (List.replicate n (List.replicate 64 0)) := by
  rw [cellsS_fresh, bvs_zero]
  exact made_rep 64 (by omega) _ _
theorem makeS {ops : Array Oper} {rest : List Oper} {o : Oper} {a : Act} {w : World} {Q : Exit → Act → World → Prop} {l c : Operand} {base n : Nat} {kl kc : IntKind} {L C : Int}
    (hgd : o.guard = none) (ho : o.op = Op.makeSlice 50 l c) (hl : a.eval l = .int kl L) (hc : a.eval c = .int kc C) (hL : L = (n : Int)) (hC : C = (n : Int)) (hn : n ≤ 65536) (hb : base ≤ w.heap.size)
    (h : ∀ w', w'.ownsRow base 28 64 (.slice (some ⟨w.heap.size, 0, none⟩) n n) n (cellsS (List.replicate n (List.replicate 64 0))) → w.grownBy w' none → wpList Try.prog ops Q rest (a.put o.dst (.slice (some ⟨w.heap.size, 0, none⟩) n n)) w') : wpList Try.prog ops Q (o :: rest) a w := by
  obtain ⟨i0, hi0, hz0, hz1, hz2⟩ := info_parts secinfo
  refine wpList_make_full w hgd l c _ ho base 28 i0 _ 64 Try.underlying50 hi0 hz0 hz1 kl kc L C n hl hc hL hC (by rw [hz2]; omega) (by simp only [maxLen]; omega) hb ?_
  intro w' h1 h2
  refine h w' ?_ h2
  rw [← made_fresh]
  exact h1
def NewPost (n : Nat) (w : World) (e : Ending) (w' : World) : Prop := ∃ g S P, e = .returned (.tuple #[.pointer (some ⟨g, 0, none⟩), .int .i64 0]) ∧ Dsk w' w.heap.size (fun k => w.heap.size ≤ k ∧ k < w'.heap.size) g (DS.fresh n) S P ∧ Below w.heap.size w w'
set_option maxRecDepth 100000 in
set_option maxHeartbeats 1000000 in
theorem New_any (n : Nat) (h1 : 1 ≤ n) (h2 : n ≤ 65536) (w : World) : Calls Try.prog 9 #[.int .i64 (n : Int)] w (NewPost n w) := by
  have h1' : (1 : Int) ≤ (n : Int) := by omega
  have h2' : (n : Int) ≤ 65536 := by omega
  go_enter Try.func9, Try.ntmps9
  go_wp2_with (refine makeS rfl rfl rfl rfl (n := n) rfl rfl h2 (Nat.le_refl _) ?_; intro w1 hrow hg; have Hrow := Lib.hid hrow; clear hrow)
  go_ret2
  have hlt := (World.ownsRow.lt Hrow.out w.heap.size rfl).2
  refine ⟨w1.heap.size, _, .slice none 0 0, rfl, ⟨⟨?_, ?_, ?_⟩, heap_alloc_new w1 _, ?_, ?_, ?_, ?_, ?_, ?_, ?_, ?_, ?_⟩, ?_⟩
  · intro l hl; rw [List.eq_of_mem_replicate hl]; exact List.length_replicate
  · intro p hp; cases hp
  · show (List.replicate n _).length ≤ 65536; rw [List.length_replicate]; exact h2
  · rw [show (DS.fresh n).secs.length = n from List.length_replicate]; exact World.ownsRow.alloc Hrow.out _
  · exact World.ownsRow_nil _ _ _ 65
  · exact ⟨hg.size, by simp⟩
  · intro k hk; cases hk; exact ⟨Nat.le_refl _, by simp; omega⟩
  · intro k hk; cases hk
  · exact fun k hk => hk
  · intro e; injection e with e; have e : w.heap.size = w1.heap.size := e; omega
  · intro e; cases e
  · exact .inr (fun e => by cases e)
  · exact (below_none (Below.refl _ _) hg).alloc hg.size _
end Go.Proofs.Ytdggibigfocadaa
