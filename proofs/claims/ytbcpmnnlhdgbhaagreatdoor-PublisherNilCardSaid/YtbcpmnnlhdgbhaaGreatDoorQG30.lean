/- The texts D5b D6 D7 D8 of this work, merged by wip/merge.py. No conditions. -/
import Derived.Test.YtbcpmnnlhdgbhaaGreatDoorQG29
import Derived.Great.FillDense
import Derived.Great.BuildSlice
import Derived.Test.YtbcpmnnlhdgbhaaGreatDoorQG03
namespace Go.Proofs.YtbcpmnnlhdgbhaaGreatDoor
open Go.RowKit
theorem fill_two (p : Nat → Option (Nat × Nat)) (z : Array Value) (v : Value) (l : List Value) (hv : v.cells = #[v]) (hz : z.size = 65) (hl : l.length = 64) (h0 : p 0 = some (0, 1)) (h1 : p 1 = some (1, 64)) :
    Instr.fill p z [(0, v), (1, .agg l.toArray)] = some (v :: l).toArray := by
  unfold Instr.fill
  rw [h0]
  simp only [hv]
  rw [if_neg (by simp [hz])]
  unfold Instr.fill
  rw [h1]
  have e1 : (#[v].zipIdx.foldl (fun cs (x : Value × Nat) => cs.setIfInBounds (0 + x.2) x.1) z) = z.setIfInBounds 0 v := by simp
  have hc : (Value.agg l.toArray).cells = l.toArray := rfl
  rw [e1]
  dsimp only
  split
  · rename_i h
    exact absurd h (by simp [hl, hz, Value.cells])
  unfold Instr.fill
  rw [hc]
  congr 1
  obtain ⟨f1, f2⟩ := Go.Great.foldl_set 1 l 0 (z.setIfInBounds 0 v)
  have e2 : l.toArray.zipIdx.foldl (fun cs (x : Value × Nat) => cs.setIfInBounds (1 + x.2) x.1) (z.setIfInBounds 0 v) = (l.zipIdx 0).foldl (fun cs (x : Value × Nat) => cs.setIfInBounds (1 + x.2) x.1) (z.setIfInBounds 0 v) := by
    simp
  rw [e2]
  apply Array.ext_getElem?
  intro k
  rw [f2]
  by_cases hk : k = 0
  · subst hk; simp [hz]
  · obtain ⟨k, rfl⟩ : ∃ j, k = j + 1 := ⟨k - 1, by omega⟩
    by_cases hlt : k < 64
    · rw [if_pos (by simp [hz, hl]; omega)]
      simp
    · have hs : (z.setIfInBounds 0 v).size = 65 := by simp [hz]
      rw [if_neg (by rw [hs]; omega), Array.getElem?_eq_none (by rw [hs]; omega), Array.getElem?_eq_none (by rw [List.size_toArray, List.length_cons, hl]; omega)]
theorem built_pending (n : Int) (d : List UInt8) (hd : d.length = 64) : Tryz.prog.built 224 [(0, .int .i64 n), (1, .agg (bvs d).toArray)] = some (Value.int .i64 n :: bvs d).toArray := by
  obtain ⟨i0, hi0, hz0, hz1, hz2⟩ := info_parts peninfo
  have hp : (Tryz.prog.built 224 [(0, .int .i64 n), (1, .agg (bvs d).toArray)]) = Instr.fill ((#[(0, 1), (1, 64)] : Array (Nat × Nat))[·]?) (Value.agg (Value.int .i64 0 :: bvs (List.replicate 64 0)).toArray).cells [(0, .int .i64 n), (1, .agg (bvs d).toArray)] := by
    kernel_rfl
  rw [hp]
  exact fill_two _ _ _ _ rfl (by simp [Value.cells, bvs]) (by rw [bvs_length]; exact hd) rfl rfl
theorem buildP {ops : Array Oper} {rest : List Oper} {o : Oper} {a : Act} {w : World} {Q : Exit → Act → World → Prop} {x y : Operand} {n : Int} {d : List UInt8} (hg : o.guard = none) (ho : o.op = .build 224 #[(0, x), (1, y)])
    (hx : a.eval x = .int .i64 n) (hy : a.eval y = .agg (bvs d).toArray) (hd : d.length = 64) (h : wpList Tryz.prog ops Q rest (a.put o.dst (.agg (Value.int .i64 n :: bvs d).toArray)) w) : wpList Tryz.prog ops Q (o :: rest) a w := by
  have hb : Tryz.prog.built 224 ((#[(0, x), (1, y)] : Array (Nat × Operand)).map fun (i, x) => (i, a.eval x)).toList = some (Value.int .i64 n :: bvs d).toArray := by
    simp only [List.map_toArray, List.map_cons, List.map_nil, hx, hy]
    exact built_pending n d hd
  refine wpList_plain hg fun K hK => wp_build _ _ ho (by rw [hb]; rfl) ?_
  rw [hb]
  exact hK _ _ h
theorem sliceP {ops : Array Oper} {rest : List Oper} {o : Oper} {a : Act} {w : World} {Q : Exit → Act → World → Prop} {x : Operand} {cs : List Value} (hg : o.guard = none) (ho : o.op = .buildSlice 118 1 #[(0, x)])
    (hx : a.eval x = .agg cs.toArray) (hl : cs.length = 65) (h : wpList Tryz.prog ops Q rest (a.put o.dst (.slice (some ⟨w.heap.size, 0, none⟩) 1 1)) (w.alloc (.cells cs.toArray 224))) : wpList Tryz.prog ops Q (o :: rest) a w := by
  obtain ⟨i0, hi0, hz0, hz1, hz2⟩ := info_parts peninfo
  refine wpList_buildSlice hg _ _ 1 _ ho cs.toArray i0 _ Tryz.underlying118 hi0 hz0 (by rw [hz1]; omega) (by rw [hz1]; omega) ?_ h
  simp only [List.map_toArray, List.map_cons, List.map_nil, hx, hz1]
  have := Go.Great.fill_whole (s := 65) (by omega) [Value.agg cs.toArray] ((Array.range (1 * 65)).map ((Value.agg (Value.int .i64 0 :: bvs (List.replicate 64 0)).toArray).cells[· % (Value.agg (Value.int .i64 0 :: bvs (List.replicate 64 0)).toArray).cells.size]!)) (fun v hv => by simp at hv; subst hv; simp [Value.cells, hl]) (by simp)
  refine this.trans ?_
  simp [Value.cells]
end Go.Proofs.YtbcpmnnlhdgbhaaGreatDoor

namespace Go.Proofs.YtbcpmnnlhdgbhaaGreatDoor
open Go.RowKit
variable {w w' : World} {base g : Nat} {own : Nat → Prop} {s : DS} {S P : Value}
def After (base g : Nat) (own : Nat → Prop) (s : DS) (w w' : World) : Prop := ∃ own' S' P', Dsk w' base own' g s S' P' ∧ Turns own w w' ∧ ∀ k, own' k → own k ∨ w.heap.size ≤ k
def WritePost (base g : Nat) (own : Nat → Prop) (s : DS) (n : Int) (d : List UInt8) (w : World) (e : Ending) (w' : World) : Prop := e = .returned (.int .i64 (s.write n d).1) ∧ After base g own (s.write n d).2 w w'
theorem WritePost.mk {n : Int} {d : List UInt8} {x : Int} {s' : DS} (he : s.write n d = (x, s')) (h : After base g own s' w w') : WritePost base g own s n d w (.returned (.int .i64 x)) w' := ⟨by rw [he], by rw [he]; exact h⟩
theorem Turns.trans {own : Nat → Prop} {a b c : World} (h : Turns own a b) (h' : Turns own b c) : Turns own a c :=
  ⟨h'.os.trans h.os, h'.tape.trans h.tape, h'.output.trans h.output, Nat.le_trans h.size h'.size, fun k hk hn => (h'.block k (Nat.lt_of_lt_of_le hk h.size) hn).trans (h.block k hk hn)⟩
theorem Turns.alloc {own : Nat → Prop} (w : World) (o : Obj) : Turns own w (w.alloc o) := Turns.of_below ((Below.refl _ _).alloc (Nat.le_refl _) _)

/-- The pending writes have a new slice, which is stored. -/
theorem Dsk.repend {w w5 : World} (h : Dsk w base own g s S P) {v : Value} {l : List (Nat × List UInt8)} (hg : w.grownBy w5 P.ownBlock) (hrow : w5.ownsRow base 224 65 v l.length (cellsP l))
    (hv : v.ownBlock = none ∨ v.ownBlock = P.ownBlock ∨ v.ownBlock = some w.heap.size) (hl : ∀ p ∈ l, p.1 < s.secs.length ∧ p.2.length = 64) :
    Dsk (w5.setCell ⟨g, 1, none⟩ v) base (fun k => own k ∨ v.ownBlock = some k) g { s with pend := l } S v ∧ Turns own w (w5.setCell ⟨g, 1, none⟩ v) ∧ ∀ k, (own k ∨ v.ownBlock = some k) → own k ∨ w.heap.size ≤ k := by
  have hvg : v.ownBlock ≠ some g := by
    rcases hv with e | e | e
    · rw [e]; simp
    · rw [e]; exact h.gP
    · rw [e]; intro h0; have := h.lt; simp at h0; omega
  have hSv : S.ownBlock = none ∨ S.ownBlock ≠ v.ownBlock := by
    rcases hv with e | e | e
    · rw [e]; cases S.ownBlock <;> simp
    · rw [e]; exact h.sP
    · rw [e]
      by_cases h0 : S.ownBlock = some w.heap.size
      · have := (h.bnd _ (h.ownS _ h0)).2; omega
      · exact .inr h0
  have hb5 : w5.heap[g]? = some (.cells #[S, P, .bool s.full, .bool s.down, .bool s.lit, .int .i64 s.fuse] 120 (0, 0)) := (hg.block g h.lt (fun e => h.gP e.symm)).trans h.blk
  have hg2 : w5.grownBy (w5.setCell ⟨g, 1, none⟩ v) (some g) := ⟨rfl, rfl, rfl, by simp [World.setCell], fun k _ hk => Below.heap_setCell _ _ _ _ (fun e => hk (by rw [e]))⟩
  have hsz : (w5.setCell ⟨g, 1, none⟩ v).heap.size = w5.heap.size := by simp [World.setCell]
  have hown : ∀ k, (own k ∨ v.ownBlock = some k) → own k ∨ w.heap.size ≤ k := by
    intro k hk
    rcases hk with hk | hk
    · exact .inl hk
    · rcases hv with e | e | e
      · rw [e] at hk; cases hk
      · rw [e] at hk; exact .inl (h.ownP k hk)
      · rw [e] at hk; cases hk; exact .inr (Nat.le_refl _)
  refine ⟨⟨⟨h.ok.secs, hl, h.ok.max⟩, ?_, ?_, ?_, .inl h.ownG, fun k hk => .inl (h.ownS k hk), fun k hk => .inr hk, ?_, h.gS, hvg, hSv⟩, ⟨hg.os, hg.tape, hg.output, by rw [hsz]; exact hg.size, ?_⟩, hown⟩
  · exact heap_setCell_same w5 g 1 _ _ v hb5
  · refine World.ownsRow.kept (World.ownsRow.kept h.rowS hg ?_) hg2 (.inr h.gS)
    exact h.sP
  · exact World.ownsRow.kept hrow hg2 (.inr hvg)
  · intro k hk
    rw [hsz]
    rcases hk with hk | hk
    · exact ⟨(h.bnd k hk).1, Nat.lt_of_lt_of_le (h.bnd k hk).2 hg.size⟩
    · exact hrow.lt k hk
  · intro k hk hn
    rw [Below.heap_setCell _ _ _ _ (fun e => hn (by rw [e]; exact h.ownG))]
    exact hg.block k hk (fun e => hn (h.ownP k e.symm))

theorem op_pend (s : DS) : s.op.2.pend = s.pend := by unfold DS.op; split <;> (try split) <;> rfl
theorem op_secs (s : DS) : s.op.2.secs = s.secs := by unfold DS.op; split <;> (try split) <;> rfl
set_option maxRecDepth 100000 in
set_option maxHeartbeats 4000000 in
theorem Write_any (h : Dsk w base own g s S P) (n : Int) (d : List UInt8) (hd : d.length = 64) (hlen : (s.pend.length + 1) * 72 ≤ 140737488355328) :
    Calls Tryz.prog 120 #[.pointer (some ⟨g, 0, none⟩), .int .i64 n, .agg (bvs d).toArray] w (WritePost base g own s n d w) := by
  obtain ⟨cs, hcs⟩ : ∃ cs, cs = (bvs d).toArray := ⟨_, rfl⟩
  rw [← hcs]
  have Hcs := Lib.hid hcs
  have hA : Dsk (w.alloc (.cells cs 32)) base own g s S P := h.below ((Below.refl _ _).alloc (Nat.le_refl _) _)
  clear hcs
  by_cases hin : 0 ≤ n ∧ n < (s.secs.length : Int)
  · have hdin : decide (0 ≤ n ∧ n < (s.secs.length : Int)) = true := decide_eq_true hin
    cases hop : s.op.1 with
    | false =>
      have Hop := Lib.hid hop
      clear hop
      go_enter Tryz.func120, Tryz.ntmps120
      go_wp2_with (first
        | (go_at_call 143; go_must (refine (has_any hA n).mono ?_; rintro e w1 ⟨rfl, rfl⟩; rw [hdin]))
        | (go_at_call 121; go_must (refine (operation_any hA).mono ?_; rintro e w2 ⟨rfl, hD, hT⟩; rw [Hop.out])))
      go_ret
      exact WritePost.mk (by unfold DS.write; rw [if_pos hin, if_neg (by rw [Hop.out]; simp)]) ⟨own, S, P, hD, (Turns.alloc _ _).trans hT, fun k hk => .inl hk⟩
    | true =>
      have Hop := Lib.hid hop
      clear hop
      obtain ⟨s2, hs2⟩ : ∃ s2, s.op.2 = s2 := ⟨_, rfl⟩
      have Hs2 := Lib.hid hs2
      have hpl : s2.pend.length = s.pend.length := by rw [← hs2, op_pend]
      have Hpl := Lib.hid hpl
      have hsl : s2.secs.length = s.secs.length := by rw [← hs2, op_secs]
      have Hsl := Lib.hid hsl
      clear hs2 hpl hsl
      cases hfu : s2.full with
      | true =>
        have Hfu := Lib.hid hfu
        clear hfu
        go_enter Tryz.func120, Tryz.ntmps120
        go_wp2_with (first
          | (go_at_call 143; go_must (refine (has_any hA n).mono ?_; rintro e w1 ⟨rfl, rfl⟩; rw [hdin]))
          | (go_at_call 121; go_must (refine (operation_any hA).mono ?_; rintro e w2 ⟨rfl, hD, hT⟩; rw [Hop.out]; rw [Hs2.out] at hD; have f2 := hD.field (i := 2) rfl; rw [Hfu.out] at f2)))
        go_ret
        exact WritePost.mk (by unfold DS.write; rw [if_pos hin, if_pos Hop.out, Hs2.out, if_pos Hfu.out]) ⟨own, S, P, hD, (Turns.alloc _ _).trans hT, fun k hk => .inl hk⟩
      | false =>
        have Hfu := Lib.hid hfu
        clear hfu
        go_enter Tryz.func120, Tryz.ntmps120
        go_wp2_with (first
          | (go_at_call 143; go_must (refine (has_any hA n).mono ?_; rintro e w1 ⟨rfl, rfl⟩; rw [hdin]))
          | (go_at_call 121; go_must (refine (operation_any hA).mono ?_; rintro e w2 ⟨rfl, hD, hT⟩; rw [Hop.out]; rw [Hs2.out] at hD; have f2 := hD.field (i := 2) rfl; rw [Hfu.out] at f2)))
        · have hnown : ¬ own w.heap.size := fun e => by have := (h.bnd _ e).2; omega
          have hrg : w2.rangeAt w.heap.size 0 (bvs d) := fun j v hv => by
            rw [World.cell?_of_block (w := w.alloc (.cells cs 32)) (a := ⟨w.heap.size, 0 + j, none⟩) (hT.block _ (by simp) hnown), Nat.zero_add, cell_new, Hcs.out]
            simpa using hv
          have hb0 : w.heap.size < w2.heap.size := by have := hT.size; simp at this; omega
          have Hd := Lib.hid hd
          clear hd
          refine AnyZ.start [9, 12] (by kernel_rfl) rfl ?_
          apply AnyZ.pure (i := 0) rfl (by kernel_rfl) rfl rfl
          · intro w' K hK
            go_wp2
            exact hK
          · rfl
          apply AnyZ.pure (i := 1) rfl (by kernel_rfl) rfl rfl
          · intro w' K hK
            go_wp2
            exact hK
          · rfl
          apply AnyZ.pure (i := 2) rfl (by kernel_rfl) rfl rfl
          · intro w' K hK
            go_wp2
            exact hK
          · rfl
          apply AnyZ.pure (i := 3) rfl (by kernel_rfl) rfl rfl
          · intro w' K hK
            go_wp2
            exact hK
          · rfl
          apply AnyZ.take (i := 4) rfl (by kernel_rfl) (by kernel_rfl) rfl
          · intro w' hC K hK
            have f1 := (hD.below hC).field (i := 1) rfl
            go_wp2
            exact hK
          · rfl
          apply AnyZ.pure (i := 5) rfl (by kernel_rfl) rfl rfl
          · intro w' K hK
            go_wp2
            exact hK
          · rfl
          apply AnyZ.take (i := 6) rfl (by kernel_rfl) (by kernel_rfl) rfl
          · intro w' hC K hK
            refine wpList_load_mid rfl _ _ rfl w.heap.size 0 rfl (bvs d) _ (fun j v hv => (hC.cell (p := ⟨w.heap.size, 0 + j, none⟩) hb0).trans (hrg j v hv)) Tryz.underlying32 rfl (by rw [bvs_length, Hd.out]; kernel_rfl) ?_
            exact hK
          · rfl
          apply AnyZ.pure (i := 7) rfl (by kernel_rfl) rfl rfl
          · intro w' K hK
            refine buildP (x := .tmp 26) (y := .tmp 27) (n := n) (d := d) rfl rfl rfl rfl Hd.out ?_
            exact hK
          · rfl
          apply AnyZ.solo (i := 8) rfl (by kernel_rfl)
          intro w3 hC3
          refine sliceP (x := .tmp 28) rfl rfl rfl (by rw [List.length_cons, bvs_length, Hd.out]) ?_
          refine ⟨rfl, hC3.trans ((Below.refl _ _).alloc hC3.size _), ?_⟩
          apply AnyZ.soloW (i := 9) rfl (by kernel_rfl)
          intro w4 hC4
          have hD4 : Dsk w4 base own g s2 S P := (hD.below hC3).below (((Below.refl _ _).alloc (Nat.le_refl _) _).trans (hC4.mono (by simp)))
          have hT4 : Turns own w2 w4 := (Turns.of_below hC3).trans ((Turns.alloc _ _).trans (Turns.of_below hC4))
          have hR4 : Reads w4 (w3.heap.size + 1) 65 (some ⟨w3.heap.size, 0, none⟩) 1 (cellsP [(n.toNat, d)]) := by
            refine ⟨by simp [cellsP, bvs_length, Hd.out], fun _ => ⟨_, rfl, Nat.lt_succ_self _, fun j u hu => ?_⟩⟩
            rw [add_none]
            refine (hC4.cell (by simp)).trans ?_
            rw [Nat.zero_add, cell_new]
            have hn0 : ((n.toNat : Nat) : Int) = n := Int.toNat_of_nonneg hin.1
            have hcl : cellsP [(n.toNat, d)] = .int .i64 n :: bvs d := by simp [cellsP, hn0]
            rw [hcl] at hu
            simpa using hu
          refine appP (s := .tmp 25) (x := .tmp 29) (p := (n.toNat, d)) (B := w3.heap.size + 1) rfl rfl rfl rfl hD4.rowP hR4 (by have := Hpl.out; omega) (Nat.le_trans (h.bnd _ h.ownG).1 (by have := h.lt; have := hT4.size; omega)) ?_
          intro v5 w5 hrow5 hg5 hx5
          have hR5 := hD4.repend hg5 hrow5 (.inr hx5) (by
            intro p hp
            rcases List.mem_append.1 hp with hp | hp
            · exact hD4.ok.pend p hp
            · rw [List.mem_singleton.1 hp]
              refine ⟨?_, Hd.out⟩
              have h1 := hin.1
              have h2 := hin.2
              rw [Hsl.out]
              simp only
              omega)
          have hfz5 : w5.frozen? ⟨g, 1, none⟩ = false := (World.frozen?_of_block (a := ⟨g, 1, none⟩) (hg5.block g hD4.lt (fun e => hD4.gP e.symm))).trans (hD4.unfrozen 1)
          have f5 : w5.cell? ⟨g, 1, none⟩ = some P := (World.cell?_of_block (a := ⟨g, 1, none⟩) (hg5.block g hD4.lt (fun e => hD4.gP e.symm))).trans (hD4.field (i := 1) rfl)
          have hln : (s2.pend ++ [(n.toNat, d)]).length = s2.pend.length + 1 := by simp
          obtain ⟨g5, c5, he5, -, -⟩ := hrow5.form (by simp)
          rw [hln] at he5
          subst he5
          have HR5 := Lib.hid hR5
          clear hR5 hrow5 hln hg5 hx5
          refine ⟨rfl, ?_⟩
          apply AnyW.pure (i := 10) rfl (by kernel_rfl) rfl rfl
          · intro w' K hK
            go_wp2
            exact hK
          · rfl
          apply AnyW.pure (i := 11) rfl (by kernel_rfl) rfl rfl
          · intro w' K hK
            go_wp2
            exact hK
          · rfl
          apply AnyW.solo (i := 12) rfl (by kernel_rfl)
          go_wp2
          refine ⟨rfl, ?_⟩
          apply AnyW.done (by kernel_rfl)
          go_wp2
          go_ret
          refine WritePost.mk (by unfold DS.write; rw [if_pos hin, if_pos Hop.out, Hs2.out, if_neg (by rw [Hfu.out]; simp)]) ?_
          obtain ⟨hD6, hT6, ho6⟩ := HR5.out
          exact ⟨_, _, _, hD6, ((Turns.alloc _ _).trans (hT.trans (hT4.trans hT6))), fun k hk => (ho6 k hk).imp id fun hk => by have := (hT.trans hT4).size; simp at this; omega⟩
  · have hdin : decide (0 ≤ n ∧ n < (s.secs.length : Int)) = false := decide_eq_false hin
    have Hin := Lib.hid hin
    clear hin
    go_enter Tryz.func120, Tryz.ntmps120
    go_wp2_with (first
      | (go_at_call 143; go_must (refine (has_any hA n).mono ?_; rintro e w1 ⟨rfl, rfl⟩; rw [hdin])))
    go_ret
    exact WritePost.mk (by unfold DS.write; rw [if_neg Hin.out]) ⟨own, S, P, hA, Turns.alloc _ _, fun k hk => .inl hk⟩
end Go.Proofs.YtbcpmnnlhdgbhaaGreatDoor

namespace Go.Proofs.YtbcpmnnlhdgbhaaGreatDoor
open Go.RowKit
variable {w w' : World} {base g : Nat} {own : Nat → Prop} {s : DS} {S P : Value}
def layL : List Value → Nat → List Value → List Value
  | xs, _, [] => xs
  | xs, o, v :: vs => layL (xs.set o v) (o + 1) vs
theorem layL_behind : ∀ (vs a b : List Value) (o : Nat), layL (a ++ b) (a.length + o) vs = a ++ layL b o vs
  | [], _, _, _ => rfl
  | v :: vs, a, b, o => by
    simp only [layL]
    rw [List.set_append_right _ _ (by omega), show a.length + o - a.length = o from by omega, show a.length + o + 1 = a.length + (o + 1) from by omega]
    exact layL_behind vs a _ _
theorem layL_front : ∀ (vs a b : List Value), a.length = vs.length → layL (a ++ b) 0 vs = vs ++ b
  | [], [], b, h => rfl
  | [], x :: a, b, h => by simp at h
  | v :: vs, [], b, h => by simp at h
  | v :: vs, x :: a, b, h => by
    simp only [layL, List.cons_append, List.set_cons_zero]
    have h1 := layL_behind vs [v] (a ++ b) 0
    simp only [List.length_singleton, List.singleton_append] at h1
    rw [show 0 + 1 = 1 + 0 from rfl, h1, layL_front vs a b (by simpa using h)]
theorem layL_flat {α : Type} (f : α → List Value) (k : Nat) : ∀ (l : List α) (i : Nat) (d : α), (∀ x ∈ l, (f x).length = k) → (f d).length = k → i < l.length → layL (l.flatMap f) (i * k) (f d) = (l.set i d).flatMap f
  | [], _, _, _, _, h => by simp at h
  | x :: t, 0, d, hl, hd, _ => by
    simp only [List.flatMap_cons, List.set_cons_zero, Nat.zero_mul]
    exact layL_front _ _ _ ((hl x (by simp)).trans hd.symm)
  | x :: t, i + 1, d, hl, hd, h => by
    simp only [List.flatMap_cons, List.set_cons_succ]
    rw [show (i + 1) * k = (f x).length + i * k from by rw [hl x (by simp), Nat.succ_mul]; omega, layL_behind, layL_flat f k t i d (fun y hy => hl y (by simp [hy])) hd (by simpa using h)]
theorem flat_get {α : Type} (f : α → List Value) (k : Nat) : ∀ (l : List α) (i j : Nat) (x : α) (v : Value), (∀ x ∈ l, (f x).length = k) → l[i]? = some x → (f x)[j]? = some v → (l.flatMap f)[i * k + j]? = some v
  | [], _, _, _, _, _, h, _ => by simp at h
  | y :: t, 0, j, x, v, hl, hx, hv => by
    have hy : y = x := by simpa using hx
    subst hy
    have hj : j < (f y).length := by
      rcases Nat.lt_or_ge j (f y).length with h | h
      · exact h
      · rw [List.getElem?_eq_none h] at hv; cases hv
    rw [List.flatMap_cons, Nat.zero_mul, Nat.zero_add, List.getElem?_append_left hj]
    exact hv
  | y :: t, i + 1, j, x, v, hl, hx, hv => by
    have hy := hl y (by simp)
    rw [List.flatMap_cons, List.getElem?_append_right (by rw [hy, Nat.succ_mul]; omega), show (i + 1) * k + j - (f y).length = i * k + j from by rw [hy, Nat.succ_mul]; omega]
    exact flat_get f k t i j x v (fun z hz => hl z (by simp [hz])) (by simpa using hx) hv
theorem stored_many {base' : Nat} {e : TypeId} {size g' n cap : Nat} : ∀ (vs : List Value) (o : Nat) (w : World) (xs : List Value), w.ownsRow base' e size (.slice (some ⟨g', 0, none⟩) n cap) n xs →
    (w.setCells g' o vs).ownsRow base' e size (.slice (some ⟨g', 0, none⟩) n cap) n (layL xs o vs) ∧ w.grownBy (w.setCells g' o vs) (some g')
  | [], _, _, _, h => ⟨h, rfl, rfl, rfl, Nat.le_refl _, fun _ _ _ => rfl⟩
  | v :: vs, o, w, xs, h => by
    obtain ⟨h1, h2⟩ := h.stored o v
    obtain ⟨h3, h4⟩ := stored_many vs (o + 1) _ _ h1
    exact ⟨h3, h4.os.trans h2.os, h4.tape.trans h2.tape, h4.output.trans h2.output, Nat.le_trans h2.size h4.size, fun k hk hne => (h4.block k (Nat.lt_of_lt_of_le hk h2.size) hne).trans (h2.block k hk hne)⟩
theorem heap_size_setCells (b : Nat) : ∀ (vs : List Value) (o : Nat) (w : World), (w.setCells b o vs).heap.size = w.heap.size
  | [], _, _ => rfl
  | v :: vs, o, w => (heap_size_setCells b vs (o + 1) _).trans (by simp [World.setCell])

/-- A pending write is read. -/
theorem Dsk.pendAt (h : Dsk w base own g s S P) {k : Nat} {p : Nat × List UInt8} (hk : s.pend[k]? = some p) :
    ∃ gP c, P = .slice (some ⟨gP, 0, none⟩) s.pend.length c ∧ own gP ∧ gP < w.heap.size ∧ w.rangeAt gP (k * 65) (.int .i64 (p.1 : Int) :: bvs p.2) := by
  have hlt : k < s.pend.length := by
    rcases Nat.lt_or_ge k s.pend.length with h' | h'
    · exact h'
    · rw [List.getElem?_eq_none h'] at hk; cases hk
  obtain ⟨gP, c, hP, hb, hl⟩ := h.rowP.form (by omega)
  refine ⟨gP, c, hP, h.ownP _ (by rw [hP]; rfl), hl, fun j v hv => ?_⟩
  have hrow := h.rowP
  rw [hP] at hrow
  have hl65 : ∀ x ∈ s.pend, (Value.int .i64 (x.1 : Int) :: bvs x.2).length = 65 := fun x hx => by rw [List.length_cons, bvs_length, (h.ok.pend x hx).2]
  have hj : j < 65 := by
    rcases Nat.lt_or_ge j 65 with h' | h'
    · exact h'
    · rw [List.getElem?_eq_none (by rw [hl65 p (List.mem_of_getElem? hk)]; exact h')] at hv; cases hv
  rw [hrow.cellAt (k * 65 + j) (by have : (k + 1) * 65 ≤ s.pend.length * 65 := Nat.mul_le_mul_right _ hlt; omega)]
  exact flat_get _ 65 s.pend k j p v hl65 hk hv
/-- A sector is read. -/
theorem Dsk.secAt (h : Dsk w base own g s S P) {k : Nat} {d : List UInt8} (hk : s.secs[k]? = some d) :
    ∃ gS c, S = .slice (some ⟨gS, 0, none⟩) s.secs.length c ∧ own gS ∧ gS < w.heap.size ∧ w.rangeAt gS (k * 64) (bvs d) ∧ w.there gS (k * 64) 64 := by
  have hlt : k < s.secs.length := by
    rcases Nat.lt_or_ge k s.secs.length with h' | h'
    · exact h'
    · rw [List.getElem?_eq_none h'] at hk; cases hk
  obtain ⟨gS, c, hS, hb, hl⟩ := h.rowS.form (by omega)
  have hrow := h.rowS
  rw [hS] at hrow
  have hl64 : ∀ x ∈ s.secs, (bvs x).length = 64 := fun x hx => by rw [bvs_length, h.ok.secs x hx]
  have hd := hl64 d (List.mem_of_getElem? hk)
  have hle : (k + 1) * 64 ≤ s.secs.length * 64 := Nat.mul_le_mul_right _ hlt
  have hr : w.rangeAt gS (k * 64) (bvs d) := fun j v hv => by
    have hj : j < 64 := by
      rcases Nat.lt_or_ge j 64 with h' | h'
      · exact h'
      · rw [List.getElem?_eq_none (by omega)] at hv; cases hv
    rw [hrow.cellAt (k * 64 + j) (by omega)]
    exact flat_get bvs 64 s.secs k j d v hl64 hk hv
  refine ⟨gS, c, hS, h.ownS _ (by rw [hS]; rfl), hl, hr, fun j hj => ⟨?_, hrow.frozenAt _⟩⟩
  rw [hr j _ (List.getElem?_eq_getElem (by omega))]
  rfl
/-- A sector is written. -/
theorem Dsk.secSet (h : Dsk w base own g s S P) {k gS c : Nat} {d : List UInt8} (hS : S = .slice (some ⟨gS, 0, none⟩) s.secs.length c) (hk : k < s.secs.length) (hd : d.length = 64) :
    Dsk (w.setCells gS (k * 64) (bvs d)) base own g { s with secs := s.secs.set k d } S P ∧ Turns own w (w.setCells gS (k * 64) (bvs d)) := by
  have hrow := h.rowS
  rw [hS] at hrow
  obtain ⟨h1, h2⟩ := stored_many (bvs d) (k * 64) w _ hrow
  have ho : own gS := h.ownS _ (by rw [hS]; rfl)
  have hsz := heap_size_setCells gS (bvs d) (k * 64) w
  have hSb : S.ownBlock = some gS := by rw [hS]; rfl
  have hgg : gS ≠ g := fun e => h.gS (by rw [hSb, e])
  have hl64 : ∀ x ∈ s.secs, (bvs x).length = 64 := fun x hx => by rw [bvs_length, h.ok.secs x hx]
  refine ⟨⟨⟨?_, ?_, ?_⟩, ?_, ?_, ?_, h.ownG, h.ownS, h.ownP, ?_, h.gS, h.gP, h.sP⟩, ⟨h2.os, h2.tape, h2.output, by rw [hsz]; exact Nat.le_refl _, fun k hk hn => h2.block k hk (fun e => hn (by cases e; exact ho))⟩⟩
  · intro l hl
    rcases List.mem_or_eq_of_mem_set hl with hl | rfl
    · exact h.ok.secs l hl
    · exact hd
  · intro p hp
    rw [List.length_set]
    exact h.ok.pend p hp
  · rw [List.length_set]; exact h.ok.max
  · exact (h2.block g h.lt (fun e => hgg (by cases e; rfl))).trans h.blk
  · rw [List.length_set, show cellsS (s.secs.set k d) = layL (cellsS s.secs) (k * 64) (bvs d) from (layL_flat bvs 64 s.secs k d hl64 (by rw [bvs_length]; exact hd) hk).symm, hS]
    exact h1
  · refine World.ownsRow.kept h.rowP h2 ?_
    rcases h.sP with e | e
    · rw [e] at hSb; cases hSb
    · exact .inr (fun e' => e (by rw [e', hSb]))
  · intro k hk
    rw [hsz]
    exact h.bnd k hk
end Go.Proofs.YtbcpmnnlhdgbhaaGreatDoor

namespace Go.Proofs.YtbcpmnnlhdgbhaaGreatDoor
open Go.RowKit
variable {w w' : World} {base g : Nat} {own : Nat → Prop} {s : DS} {S P : Value}
def syncAll (l : List (List UInt8)) (ps : List (Nat × List UInt8)) : List (List UInt8) := ps.foldl (fun l p => l.set p.1 p.2) l
def DS.sync (s : DS) : Int × DS := if s.op.1 = true then (0, { s.op.2 with secs := syncAll s.op.2.secs s.op.2.pend, pend := [] }) else (9, s.op.2)
def SyncPost (base g : Nat) (own : Nat → Prop) (s : DS) (w : World) (e : Ending) (w' : World) : Prop := e = .returned (.int .i64 s.sync.1) ∧ After base g own s.sync.2 w w'
theorem SyncPost.mk {x : Int} {s' : DS} (he : s.sync = (x, s')) (h : After base g own s' w w') : SyncPost base g own s w (.returned (.int .i64 x)) w' := ⟨by rw [he], by rw [he]; exact h⟩
theorem one_pend (n : Int) (d : List UInt8) : ∀ u ∈ (Value.int .i64 n :: bvs d), u.oneCell' = true := by
  intro u hu
  rcases List.mem_cons.1 hu with rfl | hu
  · rfl
  · exact bvs_one _ u hu
theorem Dsk.secThere (h : Dsk w base own g s S P) {k gS c : Nat} (hS : S = .slice (some ⟨gS, 0, none⟩) s.secs.length c) (hk : k < s.secs.length) : w.there gS (k * 64) 64 := by
  obtain ⟨gS', c', hS', _, _, _, ht⟩ := h.secAt (List.getElem?_eq_getElem hk)
  rw [hS] at hS'
  injection hS' with e
  injection e with e
  injection e with e
  rw [e]
  exact ht
theorem Dsk.pendMax (h : Dsk w base own g s S P) : (s.pend.length : Int) ≤ 9223372036854775807 := by
  rcases h.rowP.2 with ⟨_, h0⟩ | ⟨_, cap, _, _, _, _, h1, h2, _⟩
  · rw [h0]; decide
  · have : s.pend.length ≤ maxLen := Nat.le_trans h1 h2
    simp only [maxLen] at this
    omega
/-- So much of the loop is done. -/
def DS.part (s : DS) (k : Nat) : DS := { s with secs := syncAll s.secs (s.pend.take k) }
theorem part_succ {s : DS} {k : Nat} {p : Nat × List UInt8} (hp : s.pend[k]? = some p) : s.part (k + 1) = { s.part k with secs := (s.part k).secs.set p.1 p.2 } := by
  have h1 : s.pend.take (k + 1) = s.pend.take k ++ [p] := by rw [List.take_add_one, hp]; rfl
  unfold DS.part syncAll
  rw [h1, List.foldl_append]
  rfl
set_option maxRecDepth 100000 in
set_option maxHeartbeats 4000000 in
theorem Sync_any (h : Dsk w base own g s S P) : Calls Tryz.prog 92 #[.pointer (some ⟨g, 0, none⟩)] w (SyncPost base g own s w) := by
  cases hop : s.op.1 with
  | false =>
    have Hop := Lib.hid hop
    clear hop
    go_enter Tryz.func92, Tryz.ntmps92
    go_wp2_with (go_at_call 121; go_must (refine (operation_any h).mono ?_; rintro e w2 ⟨rfl, hD, hT⟩; rw [Hop.out]))
    go_ret
    exact SyncPost.mk (by unfold DS.sync; rw [if_neg (by rw [Hop.out]; simp)]) ⟨own, S, P, hD, hT, fun k hk => .inl hk⟩
  | true =>
    have Hop := Lib.hid hop
    clear hop
    obtain ⟨s2, hs2⟩ : ∃ s2, s.op.2 = s2 := ⟨_, rfl⟩
    have Hs2 := Lib.hid hs2
    clear hs2
    go_enter Tryz.func92, Tryz.ntmps92
    go_wp2_with (go_at_call 121; go_must (refine (operation_any h).mono ?_; rintro e w2 ⟨rfl, hD, hT⟩; rw [Hop.out]; rw [Hs2.out] at hD; have f1 := hD.field (i := 1) rfl; obtain ⟨AP, cP, rfl⟩ := hD.formP))
    have hDo := Lib.hid hD
    have hTo := Lib.hid hT
    clear hD hT f1
    go_loopw [17] (fun i wr => ∃ k : Nat, k ≤ s2.pend.length ∧ i = .int .i64 k ∧ Hid (Dsk wr base own g (s2.part k) S (.slice AP s2.pend.length cP)) ∧ Hid (Turns own w wr)) (fun i _ => s2.pend.length - (intOf i).toNat)
    case atStart => exact ⟨0, Nat.zero_le _, rfl, hDo, hTo⟩
    case round =>
      obtain ⟨k, hk, rfl, hD, hT⟩ := hrel
      by_cases hlt : k < s2.pend.length
      · have hlt' : (k : Int) < (s2.pend.length : Int) := by omega
        have hk0 : (0 : Int) ≤ (k : Int) := by omega
        have hmx : (k : Int) + 1 ≤ 9223372036854775807 := by have := hD.out.pendMax; have e : (s2.part k).pend = s2.pend := rfl; rw [e] at this; omega
        obtain ⟨p, hp⟩ : ∃ p, s2.pend[k]? = some p := ⟨_, List.getElem?_eq_getElem hlt⟩
        obtain ⟨gP, c, hPe, hoP, hgP, hrP⟩ := hD.out.pendAt (k := k) (p := p) hp
        obtain ⟨rfl, rfl⟩ : AP = some ⟨gP, 0, none⟩ ∧ cP = c := by injection hPe; exact ⟨by assumption, by assumption⟩
        have hrP' := Lib.hid hrP
        clear hPe hrP hDo hTo
        obtain ⟨ps, hps⟩ : ∃ ps : Array Value, ps = (Value.int .i64 (p.1 : Int) :: bvs p.2).toArray := ⟨_, rfl⟩
        have Hps := Lib.hid hps
        have hpl : p.2.length = 64 := (hD.out.ok.pend p (List.mem_of_getElem? hp)).2
        have Hpl := Lib.hid hpl
        have hpsz : ps.size = 65 := by rw [hps, List.size_toArray, List.length_cons, bvs_length, hpl]
        have Hpsz := Lib.hid hpsz
        clear hps hpl hpsz
        obtain ⟨zp, hzp⟩ : ∃ zp : Array Value, zp = (Value.int .i64 0 :: bvs (List.replicate 64 0)).toArray := ⟨_, rfl⟩
        have hz56 : ∀ w, (zeroValue 224).run Tryz.prog w = .ok (.agg zp) w := fun w => by rw [hzp]; kernel_rfl
        have hzs : zp.size = 65 := by rw [hzp]; simp [bvs_length]
        have Hzs := Lib.hid hzs
        clear hzp hzs
        go_wp2_with (first
          | (refine wpList_load_mid rfl _ _ rfl gP (k * 65) rfl (Value.int .i64 (p.1 : Int) :: bvs p.2) _ hrP'.out Tryz.underlying224 rfl (by rw [List.length_cons, bvs_length, Hpl.out]; kernel_rfl) ?_; rw [← Hps.out])
          | (refine wpList_store_mid rfl _ _ _ rfl wr.heap.size 0 ps rfl rfl (by rw [Hpsz.out]; exact there_new wr _ _ 65 (by rw [Hzs.out]; exact Nat.le_refl _)) (by rw [Hpsz.out]; kernel_rfl) (by rw [Hps.out]; exact all_oneCell_toArray (one_pend _ _)) ?_))
        have hb1 : Below wr.heap.size wr ((wr.alloc (.cells zp 224)).setCells wr.heap.size 0 ps.toList) := below_setCells _ _ _ ((Below.refl _ _).alloc (Nat.le_refl _) _) (Nat.le_refl _)
        have hr1 : ((wr.alloc (.cells zp 224)).setCells wr.heap.size 0 ps.toList).rangeAt wr.heap.size 0 ps.toList := World.rangeAt_setCells_same _ _ _ _ (by rw [Array.length_toList, Hpsz.out]; exact there_new wr _ _ 65 (by rw [Hzs.out]; exact Nat.le_refl _))
        have hs1 : wr.heap.size < ((wr.alloc (.cells zp 224)).setCells wr.heap.size 0 ps.toList).heap.size := by rw [heap_size_setCells]; simp
        generalize ((wr.alloc (.cells zp 224)).setCells wr.heap.size 0 ps.toList) = w1 at *
        have hD1 := hD.out.below hb1
        have hpk := (hD.out.ok.pend p (List.mem_of_getElem? hp)).1
        obtain ⟨d0, hd0⟩ : ∃ d0, (s2.part k).secs[p.1]? = some d0 := ⟨_, List.getElem?_eq_getElem hpk⟩
        obtain ⟨gS, cS, rfl, hoS, hgS, hrS, htS⟩ := hD1.secAt hd0
        have Htgt := Lib.hid htS
        have Hr1 := Lib.hid hr1
        have hpk' : (p.1 : Int) < ((s2.part k).secs.length : Int) := by omega
        have hp0 : (0 : Int) ≤ (p.1 : Int) := by omega
        clear hrS htS hr1
        refine AnyZ.start [9] (by kernel_rfl) rfl ?_
        apply AnyZ.pure (i := 0) rfl (by kernel_rfl) rfl rfl
        · intro w' K hK
          go_wp2
          exact hK
        · rfl
        apply AnyZ.pure (i := 1) rfl (by kernel_rfl) rfl rfl
        · intro w' K hK
          go_wp2
          exact hK
        · rfl
        apply AnyZ.pure (i := 2) rfl (by kernel_rfl) rfl rfl
        · intro w' K hK
          go_wp2
          exact hK
        · rfl
        apply AnyZ.take (i := 3) rfl (by kernel_rfl) (by kernel_rfl) rfl
        · intro w' hC K hK
          have f0 := (hD1.below hC).field (i := 0) rfl
          go_wp2
          exact hK
        · rfl
        apply AnyZ.pure (i := 4) rfl (by kernel_rfl) rfl rfl
        · intro w' K hK
          go_wp2
          exact hK
        · rfl
        apply AnyZ.take (i := 5) rfl (by kernel_rfl) (by kernel_rfl) rfl
        · intro w' hC K hK
          have f0 : w'.cell? ⟨wr.heap.size, 0, none⟩ = some (.int .i64 p.1) := (hC.cell (p := ⟨wr.heap.size, 0, none⟩) hs1).trans (Hr1.out 0 _ (by rw [Hps.out]; rfl))
          go_wp2
          exact hK
        · rfl
        apply AnyZ.pure (i := 6) rfl (by kernel_rfl) rfl rfl
        · intro w' K hK
          go_wp2
          exact hK
        · rfl
        apply AnyZ.take (i := 7) rfl (by kernel_rfl) (by kernel_rfl) rfl
        · intro w' hC K hK
          refine wpList_load_mid rfl _ _ rfl wr.heap.size 1 rfl (bvs p.2) _ (fun j v hv => (hC.cell (p := ⟨wr.heap.size, 1 + j, none⟩) hs1).trans (by have := Hr1.out (j + 1) v (by rw [Hps.out]; simpa using hv); rw [Nat.zero_add] at this; rw [Nat.add_comm]; exact this)) Tryz.underlying32 rfl (by rw [bvs_length, Hpl.out]; kernel_rfl) ?_
          exact hK
        · rfl
        apply AnyZ.pure (i := 8) rfl (by kernel_rfl) rfl rfl
        · intro w' K hK
          go_wp2
          exact hK
        · rfl
        apply AnyZ.soloW (i := 9) rfl (by kernel_rfl)
        intro w3 hC3
        have hD3 := hD1.below hC3
        refine wpList_store_mid rfl _ _ _ rfl gS (p.1 * 64) (bvs p.2).toArray rfl rfl (by rw [List.size_toArray, bvs_length, Hpl.out]; exact hD3.secThere rfl hpk) (by rw [List.size_toArray, bvs_length, Hpl.out]; kernel_rfl) (all_oneCell_toArray (bvs_one _)) ?_
        refine ⟨rfl, ?_⟩
        apply AnyW.done (by kernel_rfl)
        have Hfin : Hid (Dsk (w3.setCells gS (p.1 * 64) (bvs p.2).toArray.toList) base own g (s2.part (k + 1)) (.slice (some ⟨gS, 0, none⟩) (s2.part k).secs.length cS) (.slice (some ⟨gP, 0, none⟩) s2.pend.length cP) ∧ Turns own w (w3.setCells gS (p.1 * 64) (bvs p.2).toArray.toList)) := by
          obtain ⟨h1, h2⟩ := hD3.secSet (k := p.1) (d := p.2) rfl hpk Hpl.out
          refine ⟨?_, hT.out.trans ((Turns.of_below (hb1.trans (hC3.mono hb1.size))).trans h2)⟩
          rw [show s2.part (k + 1) = { s2.part k with secs := (s2.part k).secs.set p.1 p.2 } from part_succ hp]
          exact h1
        generalize (w3.setCells gS (p.1 * 64) (bvs p.2).toArray.toList) = w4 at *
        go_wp2
        go_roundw
        case rel => exact ⟨k + 1, hlt, by go_num, Hfin.out.1, Hfin.out.2⟩
        case measure => simp [intOf]; omega
      · obtain rfl : k = s2.pend.length := by omega
        have hfr := hD.out.unfrozen 1
        have f1 := hD.out.field (i := 1) rfl
        go_wp2
        go_ret
        have hpt : s2.part s2.pend.length = { s2 with secs := syncAll s2.secs s2.pend } := by unfold DS.part; rw [List.take_length]
        have hre := hD.out.repend (w5 := wr) (v := .slice none 0 0) (l := []) ⟨rfl, rfl, rfl, Nat.le_refl _, fun _ _ _ => rfl⟩ (World.ownsRow_nil _ _ _ 65) (.inl rfl) (fun p hp => by cases hp)
        obtain ⟨h1, h2, h3⟩ := hre
        refine SyncPost.mk (s' := { s2.part s2.pend.length with pend := [] }) (by unfold DS.sync; rw [if_pos Hop.out, Hs2.out, hpt]) ⟨_, _, _, h1, hT.out.trans h2, fun k hk => (h3 k hk).imp id fun hk => by have := hT.out.size; omega⟩
end Go.Proofs.YtbcpmnnlhdgbhaaGreatDoor
