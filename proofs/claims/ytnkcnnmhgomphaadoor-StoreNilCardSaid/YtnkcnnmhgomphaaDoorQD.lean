/- The texts D1 D2 D3 D4 D5 D5b of this work, merged by wip/merge.py. No conditions. -/
import Derived.Test.YtnkcnnmhgomphaaDoorQA
import Derived.Test.YtnkcnnmhgomphaaDoorQG
import Derived.Deep.DeepMust
import Derived.Deep.LoopGhost
import Derived.Deep.MidRow
import Derived.BigQuiet
import Derived.Great.FillDense
import Derived.Great.BuildSlice
namespace Go.Proofs.YtnkcnnmhgomphaaDoor
open Go.RowKit

def fillV (b : UInt8) (i : Nat) : UInt8 := if i = 63 then b * 2 else b + UInt8.ofNat (i % 32)
def fillB (b : UInt8) : List UInt8 := (List.range 64).map (fillV b)
def fillC (b : UInt8) (k : Nat) : Array Value := ((List.range 64).map fun i => if i < k then bv (fillV b i) else .int .u8 0).toArray
theorem fillC_size (b : UInt8) (k : Nat) : (fillC b k).size = 64 := by simp [fillC]
theorem fillC_set (b : UInt8) (k : Nat) (hk : k < 64) {v : Value} (hv : v = bv (fillV b k)) : (fillC b k).setIfInBounds k v = fillC b (k + 1) := by
  subst hv
  apply Array.ext_getElem?
  intro i
  by_cases hi : i = k
  · subst hi; simp [fillC, hk]
  · rw [Array.getElem?_setIfInBounds_ne (Ne.symm hi)]
    simp only [fillC]
    by_cases h64 : i < 64
    · simp only [List.getElem?_toArray, List.getElem?_map, List.getElem?_range h64, Option.map_some]
      by_cases h : i < k
      · rw [if_pos h, if_pos (by omega)]
      · rw [if_neg h, if_neg (by omega)]
    · simp [h64]
theorem fillC_last (b : UInt8) : fillC b 64 = (bvs (fillB b)).toArray := by
  simp only [fillC, bvs, fillB, List.map_map]
  refine congrArg List.toArray (List.map_congr_left ?_)
  intro i hi
  rw [if_pos (by simpa using hi)]
  rfl

end Go.Proofs.YtnkcnnmhgomphaaDoor

namespace Go.Proofs.YtnkcnnmhgomphaaDoor
open Go.RowKit

/-- What a disk.Disk holds. -/
structure DS where
  secs : List (List UInt8)
  pend : List (Nat × List UInt8)
  full : Bool
  down : Bool
  lit : Bool
  fuse : Int
def cellsS (l : List (List UInt8)) : List Value := l.flatMap bvs
def cellsP (l : List (Nat × List UInt8)) : List Value := l.flatMap fun p => .int .i64 (p.1 : Int) :: bvs p.2
structure DS.ok (s : DS) : Prop where
  secs : ∀ l ∈ s.secs, l.length = 64
  pend : ∀ p ∈ s.pend, p.1 < s.secs.length ∧ p.2.length = 64
  max : s.secs.length ≤ 65536
/-- The disk at block g; its blocks are 'own'. -/
structure Dsk (w : World) (base : Nat) (own : Nat → Prop) (g : Nat) (s : DS) (S P : Value) : Prop where
  ok : s.ok
  blk : w.heap[g]? = some (.cells #[S, P, .bool s.full, .bool s.down, .bool s.lit, .int .i64 s.fuse] 59 (0, 0))
  rowS : w.ownsRow base 65 64 S s.secs.length (cellsS s.secs)
  rowP : w.ownsRow base 85 65 P s.pend.length (cellsP s.pend)
  ownG : own g
  ownS : ∀ k, S.ownBlock = some k → own k
  ownP : ∀ k, P.ownBlock = some k → own k
  bnd : ∀ k, own k → base ≤ k ∧ k < w.heap.size
  gS : S.ownBlock ≠ some g
  gP : P.ownBlock ≠ some g
  sP : S.ownBlock = none ∨ S.ownBlock ≠ P.ownBlock
/-- Only blocks of 'own' are turned. -/
structure Turns (own : Nat → Prop) (w w' : World) : Prop where
  os : w'.os = w.os
  tape : w'.tape = w.tape
  output : w'.output = w.output
  size : w.heap.size ≤ w'.heap.size
  block : ∀ k, k < w.heap.size → ¬ own k → w'.heap[k]? = w.heap[k]?
variable {w w' : World} {base g : Nat} {own : Nat → Prop} {s : DS} {S P : Value}
theorem Turns.refl (own : Nat → Prop) (w : World) : Turns own w w := ⟨rfl, rfl, rfl, Nat.le_refl _, fun _ _ _ => rfl⟩
theorem Turns.drewN {own : Nat → Prop} {a w : World} (h : Turns own a w) (n : Nat) : Turns own a (w.drewN n) := ⟨h.os, h.tape, h.output, h.size, h.block⟩
theorem Turns.of_below {own : Nat → Prop} {w w' : World} (h : Below w.heap.size w w') : Turns own w w' := ⟨h.os, h.tape, h.output, h.size, fun k hk _ => h.block k hk⟩
theorem Dsk.field (h : Dsk w base own g s S P) {i : Nat} {v : Value} (hv : (#[S, P, .bool s.full, .bool s.down, .bool s.lit, .int .i64 s.fuse] : Array Value)[i]? = some v) : w.cell? ⟨g, i, none⟩ = some v := by
  rw [cell_of_row _ g i _ _ _ h.blk]; exact hv
theorem Dsk.unfrozen (h : Dsk w base own g s S P) (i : Nat) : w.frozen? ⟨g, i, none⟩ = false := by
  simp [World.frozen?, h.blk]
theorem Dsk.lt (h : Dsk w base own g s S P) : g < w.heap.size := (h.bnd g h.ownG).2
/-- A field of one of the four plain ones is written. -/
theorem Dsk.put (h : Dsk w base own g s S P) {i : Nat} {v : Value} {s' : DS} (h1 : s'.secs = s.secs) (h2 : s'.pend = s.pend)
    (hv : (#[S, P, .bool s.full, .bool s.down, .bool s.lit, .int .i64 s.fuse] : Array Value).setIfInBounds i v = #[S, P, .bool s'.full, .bool s'.down, .bool s'.lit, .int .i64 s'.fuse]) :
    Dsk (w.setCell ⟨g, i, none⟩ v) base own g s' S P ∧ Turns own w (w.setCell ⟨g, i, none⟩ v) := by
  have hg : w.grownBy (w.setCell ⟨g, i, none⟩ v) (some g) := ⟨rfl, rfl, rfl, by simp [World.setCell], fun k _ hk => Below.heap_setCell _ _ _ _ (fun e => hk (by rw [e]))⟩
  have hsz : (w.setCell ⟨g, i, none⟩ v).heap.size = w.heap.size := by simp [World.setCell]
  refine ⟨⟨⟨h1 ▸ h.ok.secs, by rw [h1, h2]; exact h.ok.pend, h1 ▸ h.ok.max⟩, ?_, ?_, ?_, h.ownG, h.ownS, h.ownP, fun k hk => by rw [hsz]; exact h.bnd k hk, h.gS, h.gP, h.sP⟩, ⟨rfl, rfl, rfl, by omega, fun k _ hk => Below.heap_setCell _ _ _ _ (fun e => hk (by rw [e]; exact h.ownG))⟩⟩
  · rw [← hv]; exact heap_setCell_same w g i _ _ v h.blk
  · rw [h1]; exact World.ownsRow.kept h.rowS hg (.inr h.gS)
  · rw [h2]; exact World.ownsRow.kept h.rowP hg (.inr h.gP)
theorem Dsk.below (h : Dsk w base own g s S P) (hb : Below w.heap.size w w') : Dsk w' base own g s S P :=
  ⟨h.ok, (hb.block g h.lt).trans h.blk, World.ownsRow.kept h.rowS ⟨hb.os, hb.tape, hb.output, hb.size, fun k hk _ => hb.block k hk⟩ (row := none) (by cases S.ownBlock <;> simp),
   World.ownsRow.kept h.rowP ⟨hb.os, hb.tape, hb.output, hb.size, fun k hk _ => hb.block k hk⟩ (row := none) (by cases P.ownBlock <;> simp), h.ownG, h.ownS, h.ownP, fun k hk => ⟨(h.bnd k hk).1, Nat.lt_of_lt_of_le (h.bnd k hk).2 hb.size⟩, h.gS, h.gP, h.sP⟩

/-- An operation is counted. -/
def DS.op (s : DS) : Bool × DS := if s.down then (false, s) else if s.lit && s.fuse == 0 then (false, { s with down := true }) else (true, { s with fuse := wrap64 (s.fuse - 1) })
def OpPost (own : Nat → Prop) (base g : Nat) (s : DS) (S P : Value) (w : World) (e : Ending) (w' : World) : Prop := e = .returned (.bool s.op.1) ∧ Dsk w' base own g s.op.2 S P ∧ Turns own w w'

theorem OpPost.mk {s : DS} {b : Bool} {s' : DS} (he : s.op = (b, s')) {w w' : World} (h : Dsk w' base own g s' S P ∧ Turns own w w') : OpPost own base g s S P w (.returned (.bool b)) w' := ⟨by rw [he], by rw [he]; exact h.1, h.2⟩
set_option maxRecDepth 100000 in
set_option maxHeartbeats 1000000 in
theorem operation_any (h : Dsk w base own g s S P) : Calls Tryd.prog 48 #[.pointer (some ⟨g, 0, none⟩)] w (OpPost own base g s S P w) := by
  have f3 := h.field (i := 3) rfl
  have f4 := h.field (i := 4) rfl
  have f5 := h.field (i := 5) rfl
  have hfz := h.unfrozen
  obtain ⟨secs, pend, full, down, lit, fuse⟩ := s
  cases down with
  | true =>
    go_enter Tryd.func48, Tryd.ntmps48
    go_wp2
    go_ret
    exact OpPost.mk rfl ⟨h, Turns.refl _ _⟩
  | false =>
    by_cases hf : (lit && fuse == 0) = true
    · have hl : lit = true := by cases lit <;> simp_all
      have h0 : fuse = 0 := by cases lit <;> simp_all
      subst hl; subst h0
      clear hf
      go_enter Tryd.func48, Tryd.ntmps48
      go_wp2
      go_ret
      exact OpPost.mk rfl (h.put (s' := ⟨secs, pend, full, true, true, 0⟩) rfl rfl rfl)
    · have he : (DS.mk secs pend full false lit fuse).op = (true, ⟨secs, pend, full, false, lit, wrap64 (fuse - 1)⟩) := by
        unfold DS.op
        rw [if_neg (by simp), if_neg hf]
      have He := Lib.hid he
      clear he
      cases lit with
      | false =>
        clear hf
        go_enter Tryd.func48, Tryd.ntmps48
        go_wp2
        go_ret
        exact OpPost.mk He.out (h.put (s' := ⟨secs, pend, full, false, false, wrap64 (fuse - 1)⟩) rfl rfl rfl)
      | true =>
        have hf0 : (fuse == 0) = false := by simpa using hf
        clear hf
        go_enter Tryd.func48, Tryd.ntmps48
        go_wp2
        go_ret
        exact OpPost.mk He.out (h.put (s' := ⟨secs, pend, full, false, true, wrap64 (fuse - 1)⟩) rfl rfl rfl)
end Go.Proofs.YtnkcnnmhgomphaaDoor

namespace Go.Proofs.YtnkcnnmhgomphaaDoor
open Go.RowKit
variable {w w' : World} {base g : Nat} {own : Nat → Prop} {s : DS} {S P : Value}

theorem Dsk.formS (h : Dsk w base own g s S P) : ∃ A c, S = .slice A s.secs.length c := by
  obtain ⟨_, ⟨rfl, h0⟩ | ⟨g', cap, cur, rfl, _⟩⟩ := h.rowS
  · exact ⟨none, 0, by rw [h0]⟩
  · exact ⟨_, cap, rfl⟩
theorem Dsk.formP (h : Dsk w base own g s S P) : ∃ A c, P = .slice A s.pend.length c := by
  obtain ⟨_, ⟨rfl, h0⟩ | ⟨g', cap, cur, rfl, _⟩⟩ := h.rowP
  · exact ⟨none, 0, by rw [h0]⟩
  · exact ⟨_, cap, rfl⟩

set_option maxRecDepth 100000 in
set_option maxHeartbeats 1000000 in
theorem has_any (h : Dsk w base own g s S P) (n : Int) : Calls Tryd.prog 38 #[.pointer (some ⟨g, 0, none⟩), .int .i64 n] w fun e w' => e = .returned (.bool (decide (0 ≤ n ∧ n < (s.secs.length : Int)))) ∧ w' = w := by
  have f0 := h.field (i := 0) rfl
  obtain ⟨A, c, rfl⟩ := h.formS
  by_cases hn : 0 ≤ n
  · go_enter Tryd.func38, Tryd.ntmps38
    go_wp2
    go_ret
    exact ⟨by simp [hn], rfl⟩
  · go_enter Tryd.func38, Tryd.ntmps38
    go_wp2
    go_ret
    exact ⟨by simp; omega, rfl⟩
end Go.Proofs.YtnkcnnmhgomphaaDoor

namespace Go.Proofs.YtnkcnnmhgomphaaDoor
open Go.RowKit
theorem secinfo : (Tryd.prog.info? 65).map (fun i => (i.zero, i.size, i.bytes)) = some (some (.agg (bvs (List.replicate 64 0)).toArray), 64, 64) := by kernel_rfl
theorem peninfo : (Tryd.prog.info? 85).map (fun i => (i.zero, i.size, i.bytes)) = some (some (.agg (Value.int .i64 0 :: bvs (List.replicate 64 0)).toArray), 65, 72) := by kernel_rfl
def DS.fresh (n : Nat) : DS := ⟨List.replicate n (List.replicate 64 0), [], false, false, false, 0⟩
theorem bvs_zero (n : Nat) : bvs (List.replicate n 0) = List.replicate n (.int .u8 0) := by simp [bvs, bv]
theorem cellsS_fresh (n : Nat) : cellsS (List.replicate n (List.replicate 64 0)) = List.replicate (n * 64) (.int .u8 0) := by
  induction n with
  | zero => rfl
  | succ n ih =>
    show bvs (List.replicate 64 0) ++ cellsS (List.replicate n (List.replicate 64 0)) = _
    rw [ih, bvs_zero, List.replicate_append_replicate]
    congr 1; omega
theorem made_rep (m : Nat) (hm : 0 < m) (v : Value) (n : Nat) : (madeCells (List.replicate m v).toArray n).toList = List.replicate n v := by
  have key : ∀ j, j < m → ((List.replicate m v).toArray)[j]! = v := by
    intro j hj
    rw [getElem!_pos _ _ (by simpa using hj)]
    simp
  have hs : (List.replicate m v).toArray.size = m := by simp
  unfold madeCells
  rw [hs]
  apply List.ext_getElem
  · simp
  · intro i h1 h2
    simp only [Array.toList_map, List.getElem_map, List.getElem_replicate]
    exact key _ (Nat.mod_lt _ hm)
theorem made_fresh (n : Nat) : (madeCells (Value.agg (bvs (List.replicate 64 0)).toArray).cells (n * 64)).toList = cellsS (List.replicate n (List.replicate 64 0)) := by
  rw [cellsS_fresh, bvs_zero]
  exact made_rep 64 (by omega) _ _
theorem makeS {ops : Array Oper} {rest : List Oper} {o : Oper} {a : Act} {w : World} {Q : Exit → Act → World → Prop} {l c : Operand} {base n : Nat} {kl kc : IntKind} {L C : Int}
    (hgd : o.guard = none) (ho : o.op = Op.makeSlice 56 l c) (hl : a.eval l = .int kl L) (hc : a.eval c = .int kc C) (hL : L = (n : Int)) (hC : C = (n : Int)) (hn : n ≤ 65536) (hb : base ≤ w.heap.size)
    (h : ∀ w', w'.ownsRow base 65 64 (.slice (some ⟨w.heap.size, 0, none⟩) n n) n (cellsS (List.replicate n (List.replicate 64 0))) → w.grownBy w' none → wpList Tryd.prog ops Q rest (a.put o.dst (.slice (some ⟨w.heap.size, 0, none⟩) n n)) w') : wpList Tryd.prog ops Q (o :: rest) a w := by
  obtain ⟨i0, hi0, hz0, hz1, hz2⟩ := info_parts secinfo
  refine wpList_make_full w hgd l c _ ho base 65 i0 _ 64 Tryd.underlying56 hi0 hz0 hz1 kl kc L C n hl hc hL hC (by rw [hz2]; omega) (by simp only [maxLen]; omega) hb ?_
  intro w' h1 h2
  refine h w' ?_ h2
  rw [← made_fresh]
  exact h1
def NewPost (n : Nat) (w : World) (e : Ending) (w' : World) : Prop := ∃ g S P, e = .returned (.tuple #[.pointer (some ⟨g, 0, none⟩), .int .i64 0]) ∧ Dsk w' w.heap.size (fun k => w.heap.size ≤ k ∧ k < w'.heap.size) g (DS.fresh n) S P ∧ Below w.heap.size w w'
set_option maxRecDepth 100000 in
set_option maxHeartbeats 1000000 in
theorem New_any (n : Nat) (h1 : 1 ≤ n) (h2 : n ≤ 65536) (w : World) : Calls Tryd.prog 10 #[.int .i64 (n : Int)] w (NewPost n w) := by
  have h1' : (1 : Int) ≤ (n : Int) := by omega
  have h2' : (n : Int) ≤ 65536 := by omega
  go_enter Tryd.func10, Tryd.ntmps10
  go_wp2_with (refine makeS rfl rfl rfl rfl (n := n) rfl rfl h2 (Nat.le_refl _) ?_; intro w1 hrow hg; have Hrow := Lib.hid hrow; clear hrow)
  go_ret2
  have hlt := (World.ownsRow.lt Hrow.out w.heap.size rfl).2
  refine ⟨w1.heap.size, _, .slice none 0 0, rfl, ⟨⟨?_, ?_, ?_⟩, heap_alloc_new w1 _, ?_, ?_, ?_, ?_, ?_, ?_, ?_, ?_, ?_⟩, ?_⟩
  · intro l hl; rw [List.eq_of_mem_replicate hl]; exact List.length_replicate
  · intro p hp; cases hp
  · show (List.replicate n _).length ≤ 65536; rw [List.length_replicate]; exact h2
  · rw [show (DS.fresh n).secs.length = n from List.length_replicate]; exact World.ownsRow.alloc Hrow.out _
  · exact World.ownsRow_nil _ _ _ 65
  · exact ⟨hg.size, by simp⟩
  · intro k hk; cases hk; exact ⟨Nat.le_refl _, by simp; omega⟩
  · intro k hk; cases hk
  · exact fun k hk => hk
  · intro e; injection e with e; have e : w.heap.size = w1.heap.size := e; omega
  · intro e; cases e
  · exact .inr (fun e => by cases e)
  · exact (below_none (Below.refl _ _) hg).alloc hg.size _
end Go.Proofs.YtnkcnnmhgomphaaDoor

namespace Go.Proofs.YtnkcnnmhgomphaaDoor
open Go.RowKit
theorem cellsP_append (l m : List (Nat × List UInt8)) : cellsP (l ++ m) = cellsP l ++ cellsP m := by simp [cellsP]
theorem cellsP_one (l : List (Nat × List UInt8)) : ∀ u ∈ cellsP l, u.oneCell' = true := by
  intro u hu
  simp only [cellsP, List.mem_flatMap] at hu
  obtain ⟨p, _, hp⟩ := hu
  rcases List.mem_cons.1 hp with rfl | hp
  · rfl
  · exact bvs_one _ u hp
theorem appP {ops : Array Oper} {rest : List Oper} {o : Oper} {a : Act} {w : World} {Q : Exit → Act → World → Prop} {s x : Operand} {base B c : Nat} {v : Value} {l : List (Nat × List UInt8)} {A : Option Addr} {p : Nat × List UInt8}
    (hgd : o.guard = none) (ho : o.op = .call { callee := .builtin .append, args := #[s, x], argTypes := #[57, 57] })
    (hs : a.eval s = v) (hx : a.eval x = .slice A 1 c) (hown : w.ownsRow base 85 65 v l.length (cellsP l)) (hr : Reads w B 65 A 1 (cellsP [p])) (hbytes : (l.length + 1) * 72 ≤ 140737488355328) (hbase : base ≤ w.heap.size)
    (h : ∀ v' w', w'.ownsRow base 85 65 v' (l ++ [p]).length (cellsP (l ++ [p])) → w.grownBy w' v.ownBlock → (v'.ownBlock = v.ownBlock ∨ v'.ownBlock = some w.heap.size) → wpList Tryd.prog ops Q rest (a.put o.dst v') w') : wpList Tryd.prog ops Q (o :: rest) a w := by
  obtain ⟨i0, hi0, hz0, hz1, hz2⟩ := info_parts peninfo
  refine wpList_append_any w hgd s x _ ho base 85 i0 _ 65 72 Tryd.underlying57 hi0 hz0 hz1 hz2 (by rfl) (by omega) v l.length (cellsP l) hs hown B A 1 c (cellsP [p]) hx hr (cellsP_one _) (by simp only [maxLen]; omega) (by omega) hbase ?_
  intro v' w' h1 h2 h3
  refine h v' w' ?_ h2 h3
  rw [List.length_append, cellsP_append]
  exact h1
/-- The behaviour of Write. -/
def DS.write (s : DS) (n : Int) (d : List UInt8) : Int × DS :=
  if 0 ≤ n ∧ n < (s.secs.length : Int) then
    if s.op.1 = true then
      if s.op.2.full = true then (5, s.op.2) else (0, { s.op.2 with pend := s.op.2.pend ++ [(n.toNat, d)] })
    else (9, s.op.2)
  else (1, s)
end Go.Proofs.YtnkcnnmhgomphaaDoor

namespace Go.Proofs.YtnkcnnmhgomphaaDoor
open Go.RowKit
theorem fill_two (p : Nat → Option (Nat × Nat)) (z : Array Value) (v : Value) (l : List Value) (hv : v.cells = #[v]) (hz : z.size = 65) (hl : l.length = 64) (h0 : p 0 = some (0, 1)) (h1 : p 1 = some (1, 64)) :
    Instr.fill p z [(0, v), (1, .agg l.toArray)] = some (v :: l).toArray := by
  unfold Instr.fill
  rw [h0]
  simp only [hv]
  rw [if_neg (by simp [hz])]
  unfold Instr.fill
  rw [h1]
  have e1 : (#[v].zipIdx.foldl (fun cs (x : Value × Nat) => cs.setIfInBounds (0 + x.2) x.1) z) = z.setIfInBounds 0 v := by simp
  have hc : (Value.agg l.toArray).cells = l.toArray := rfl
  rw [e1]
  dsimp only
  split
  · rename_i h
    exact absurd h (by simp [hl, hz, Value.cells])
  unfold Instr.fill
  rw [hc]
  congr 1
  obtain ⟨f1, f2⟩ := Go.Great.foldl_set 1 l 0 (z.setIfInBounds 0 v)
  have e2 : l.toArray.zipIdx.foldl (fun cs (x : Value × Nat) => cs.setIfInBounds (1 + x.2) x.1) (z.setIfInBounds 0 v) = (l.zipIdx 0).foldl (fun cs (x : Value × Nat) => cs.setIfInBounds (1 + x.2) x.1) (z.setIfInBounds 0 v) := by
    simp
  rw [e2]
  apply Array.ext_getElem?
  intro k
  rw [f2]
  by_cases hk : k = 0
  · subst hk; simp [hz]
  · obtain ⟨k, rfl⟩ : ∃ j, k = j + 1 := ⟨k - 1, by omega⟩
    by_cases hlt : k < 64
    · rw [if_pos (by simp [hz, hl]; omega)]
      simp
    · have hs : (z.setIfInBounds 0 v).size = 65 := by simp [hz]
      rw [if_neg (by rw [hs]; omega), Array.getElem?_eq_none (by rw [hs]; omega), Array.getElem?_eq_none (by rw [List.size_toArray, List.length_cons, hl]; omega)]
theorem built_pending (n : Int) (d : List UInt8) (hd : d.length = 64) : Tryd.prog.built 85 [(0, .int .i64 n), (1, .agg (bvs d).toArray)] = some (Value.int .i64 n :: bvs d).toArray := by
  obtain ⟨i0, hi0, hz0, hz1, hz2⟩ := info_parts peninfo
  have hp : (Tryd.prog.built 85 [(0, .int .i64 n), (1, .agg (bvs d).toArray)]) = Instr.fill ((#[(0, 1), (1, 64)] : Array (Nat × Nat))[·]?) (Value.agg (Value.int .i64 0 :: bvs (List.replicate 64 0)).toArray).cells [(0, .int .i64 n), (1, .agg (bvs d).toArray)] := by
    kernel_rfl
  rw [hp]
  exact fill_two _ _ _ _ rfl (by simp [Value.cells, bvs]) (by rw [bvs_length]; exact hd) rfl rfl
theorem buildP {ops : Array Oper} {rest : List Oper} {o : Oper} {a : Act} {w : World} {Q : Exit → Act → World → Prop} {x y : Operand} {n : Int} {d : List UInt8} (hg : o.guard = none) (ho : o.op = .build 85 #[(0, x), (1, y)])
    (hx : a.eval x = .int .i64 n) (hy : a.eval y = .agg (bvs d).toArray) (hd : d.length = 64) (h : wpList Tryd.prog ops Q rest (a.put o.dst (.agg (Value.int .i64 n :: bvs d).toArray)) w) : wpList Tryd.prog ops Q (o :: rest) a w := by
  have hb : Tryd.prog.built 85 ((#[(0, x), (1, y)] : Array (Nat × Operand)).map fun (i, x) => (i, a.eval x)).toList = some (Value.int .i64 n :: bvs d).toArray := by
    simp only [List.map_toArray, List.map_cons, List.map_nil, hx, hy]
    exact built_pending n d hd
  refine wpList_plain hg fun K hK => wp_build _ _ ho (by rw [hb]; rfl) ?_
  rw [hb]
  exact hK _ _ h
theorem sliceP {ops : Array Oper} {rest : List Oper} {o : Oper} {a : Act} {w : World} {Q : Exit → Act → World → Prop} {x : Operand} {cs : List Value} (hg : o.guard = none) (ho : o.op = .buildSlice 57 1 #[(0, x)])
    (hx : a.eval x = .agg cs.toArray) (hl : cs.length = 65) (h : wpList Tryd.prog ops Q rest (a.put o.dst (.slice (some ⟨w.heap.size, 0, none⟩) 1 1)) (w.alloc (.cells cs.toArray 85))) : wpList Tryd.prog ops Q (o :: rest) a w := by
  obtain ⟨i0, hi0, hz0, hz1, hz2⟩ := info_parts peninfo
  refine wpList_buildSlice hg _ _ 1 _ ho cs.toArray i0 _ Tryd.underlying57 hi0 hz0 (by rw [hz1]; omega) (by rw [hz1]; omega) ?_ h
  simp only [List.map_toArray, List.map_cons, List.map_nil, hx, hz1]
  have := Go.Great.fill_whole (s := 65) (by omega) [Value.agg cs.toArray] ((Array.range (1 * 65)).map ((Value.agg (Value.int .i64 0 :: bvs (List.replicate 64 0)).toArray).cells[· % (Value.agg (Value.int .i64 0 :: bvs (List.replicate 64 0)).toArray).cells.size]!)) (fun v hv => by simp at hv; subst hv; simp [Value.cells, hl]) (by simp)
  refine this.trans ?_
  simp [Value.cells]
end Go.Proofs.YtnkcnnmhgomphaaDoor
