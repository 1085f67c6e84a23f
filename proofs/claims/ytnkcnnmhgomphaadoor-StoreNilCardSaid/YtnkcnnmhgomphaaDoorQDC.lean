/- The texts Eq64 D10 D11 LFull0 of this work, merged by wip/merge.py. No conditions. -/
import Derived.Test.YtnkcnnmhgomphaaDoorQA
import Derived.Laws.StructEq
import Derived.Test.YtnkcnnmhgomphaaDoorQDB
namespace Go.Proofs.YtnkcnnmhgomphaaDoor
open Go.RowKit
theorem part8 (xs : Array Value) (i : Nat) (v : Value) (w : World) (h : xs[i]? = some v) : (part 5 xs i).run Tryd.prog w = .ok v w := by
  have h1 : (isAgg 5).run Tryd.prog w = .ok false w := by kernel_rfl
  simp [part, Sem.run_bind, h1, h]
theorem eq8 (d : Nat) (a b : UInt8) (w : World) : (Op.equalIn (d + 1) 5 (bv a) (bv b)).run Tryd.prog w = .ok (a == b) w := by
  unfold bv
  rw [run_equalIn_int w d _ _ _ _ _ Tryd.underlying5]
  congr 1
  rw [Bool.eq_iff_iff, beq_iff_eq, beq_iff_eq, Int.ofNat_inj]
  exact UInt8.toNat_inj
theorem eqRange {xs ys : List UInt8} (d : Nat) (w : World) (hl : xs.length = ys.length) : ∀ (n k : Nat), k + n = xs.length →
    (forIn (List.range' k n 1) ((none : Option Bool), ()) (fun i (_ : Option Bool × Unit) => do
      if !(← Op.equalIn (d + 1) 5 (← part 5 (bvs xs).toArray (i * 1)) (← part 5 (bvs ys).toArray (i * 1))) then pure (ForInStep.done (some false, ())) else pure (ForInStep.yield (none, ())))).run Tryd.prog w =
      .ok (if xs.drop k = ys.drop k then none else some false, ()) w := by
  intro n
  induction n with
  | zero =>
    intro k hk
    rw [List.drop_eq_nil_of_le (by omega), List.drop_eq_nil_of_le (by omega)]
    simp
  | succ n ih =>
    intro k hk
    have hx : k < xs.length := by omega
    have hy : k < ys.length := by omega
    rw [List.range'_succ, List.forIn_cons]
    simp only [Sem.run_bind, Nat.mul_one]
    rw [part8 _ k (bv xs[k]) w (by simp [bvs, hx])]
    simp only [Result.andThen_ok]
    rw [part8 _ k (bv ys[k]) w (by simp [bvs, hy])]
    simp only [Result.andThen_ok, eq8]
    rw [List.drop_eq_getElem_cons hx, List.drop_eq_getElem_cons hy]
    by_cases he : xs[k] = ys[k]
    · rw [he]
      simp only [beq_self_eq_true, Bool.not_true, Bool.false_eq_true, if_false, Sem.run_pure, Result.andThen_ok]
      have h1 := ih (k + 1) (by omega)
      simp only [Nat.mul_one] at h1
      rw [h1]
      simp [-List.getElem_cons_drop]
    · simp [he, -List.getElem_cons_drop]
theorem eq64 (d : Nat) (x y : List UInt8) (hx : x.length = 64) (hy : y.length = 64) (w : World) :
    (Op.equalIn (d + 2) 65 (.agg (bvs x).toArray) (.agg (bvs y).toArray)).run Tryd.prog w = .ok (x == y) w := by
  have hs : (sizeOf 5).run Tryd.prog w = .ok 1 w := by kernel_rfl
  have h1 := eqRange (xs := x) (ys := y) d w (by omega) 64 0 (by omega)
  rw [Op.equalIn]
  simp only [Sem.run_bind, run_underlying Tryd.underlying65, Result.andThen_ok, hs]
  simp only [Std.Legacy.Range.forIn_eq_forIn_range', Std.Legacy.Range.size, Nat.sub_zero, Nat.add_sub_cancel, Nat.div_one]
  refine (congrArg (fun r => Result.andThen r _) h1).trans ?_
  simp only [Result.andThen_ok, List.drop_zero]
  by_cases he : x = y
  · rw [if_pos he]; simp [he]
  · rw [if_neg he]; simp [he]
theorem bin64 (x y : List UInt8) (hx : x.length = 64) (hy : y.length = 64) (w : World) :
    (binOp .eql 65 (.agg (bvs x).toArray) (.agg (bvs y).toArray)).run Tryd.prog w = .ok (.bool (x == y)) w := by
  rw [run_eql_struct, eq64 9998 x y hx hy w]
  rfl
theorem bin64n (x y : List UInt8) (hx : x.length = 64) (hy : y.length = 64) (w : World) :
    (binOp .neq 65 (.agg (bvs x).toArray) (.agg (bvs y).toArray)).run Tryd.prog w = .ok (.bool (x != y)) w := by
  rw [run_neq_struct, eq64 9998 x y hx hy w]
  rfl
end Go.Proofs.YtnkcnnmhgomphaaDoor

namespace Go.Proofs.YtnkcnnmhgomphaaDoor
open Go.RowKit
variable {w w' w0 : World} {g : Nat} {s : DS} {H : List (Nat × Obj)}
/-- The disk s at g, made by the call that began in w0; beside it the objects of H, none of them the disk's. -/
def DK (w0 w : World) (g : Nat) (s : DS) (H : List (Nat × Obj)) : Prop :=
  ∃ own S P, Dsk w w0.heap.size own g s S P ∧ Below w0.heap.size w0 w ∧ ∀ p ∈ H, w.heap[p.1]? = some p.2 ∧ ¬ own p.1
theorem DK.below0 (h : DK w0 w g s H) : Below w0.heap.size w0 w := h.elim fun _ h => h.elim fun _ h => h.elim fun _ h => h.2.1
theorem DK.held (h : DK w0 w g s H) {p : Nat × Obj} (hp : p ∈ H) : w.heap[p.1]? = some p.2 := h.elim fun _ h => h.elim fun _ h => h.elim fun _ h => (h.2.2 p hp).1
theorem held_lt {w : World} {k : Nat} {o : Obj} (h : w.heap[k]? = some o) : k < w.heap.size := by
  rcases Nat.lt_or_ge k w.heap.size with h' | h'
  · exact h'
  · rw [Array.getElem?_eq_none h'] at h; cases h
theorem DK.below (h : DK w0 w g s H) (hb : Below w.heap.size w w') : DK w0 w' g s H := by
  obtain ⟨own, S, P, hD, h0, hH⟩ := h
  exact ⟨own, S, P, hD.below hb, h0.trans (hb.mono h0.size), fun p hp => ⟨(hb.block _ (held_lt (hH p hp).1)).trans (hH p hp).1, (hH p hp).2⟩⟩
theorem DK.hold (h : DK w0 w g s H) (o : Obj) : DK w0 (w.alloc o) g s ((w.heap.size, o) :: H) := by
  obtain ⟨own, S, P, hD, h0, hH⟩ := h
  have hb : Below w.heap.size w (w.alloc o) := (Below.refl _ _).alloc (Nat.le_refl _) _
  refine ⟨own, S, P, hD.below hb, h0.trans (hb.mono h0.size), fun p hp => ?_⟩
  rcases List.mem_cons.1 hp with rfl | hp
  · exact ⟨heap_alloc_new w o, fun e => by have := (hD.bnd _ e).2; simp at this⟩
  · exact ⟨(hb.block _ (held_lt (hH p hp).1)).trans (hH p hp).1, (hH p hp).2⟩
theorem DK.drop (h : DK w0 w g s H) {H' : List (Nat × Obj)} (hs : ∀ p ∈ H', p ∈ H) : DK w0 w g s H' := by
  obtain ⟨own, S, P, hD, h0, hH⟩ := h
  exact ⟨own, S, P, hD, h0, fun p hp => hH p (hs p hp)⟩
theorem Turns.below0 {base : Nat} {own : Nat → Prop} {S P : Value} (hD : Dsk w base own g s S P) (hT : Turns own w w') (hb : base ≤ w.heap.size) : Below base w w' :=
  ⟨hT.os, hT.tape, hT.output, hT.size, fun k hk => hT.block k (by omega) (fun e => by have := (hD.bnd k e).1; omega)⟩
/-- Behind a call on the disk. -/
theorem DK.after {own : Nat → Prop} {S P : Value} {s' : DS} (hD : Dsk w w0.heap.size own g s S P) (h0 : Below w0.heap.size w0 w) (hH : ∀ p ∈ H, w.heap[p.1]? = some p.2 ∧ ¬ own p.1) (h : After w0.heap.size g own s' w w') : DK w0 w' g s' H := by
  obtain ⟨own', S', P', hD', hT, ho⟩ := h
  refine ⟨own', S', P', hD', h0.trans (Turns.below0 hD hT h0.size), fun p hp => ?_⟩
  have hlt := held_lt (hH p hp).1
  refine ⟨(hT.block _ hlt (hH p hp).2).trans (hH p hp).1, fun e => ?_⟩
  rcases ho _ e with e | e
  · exact (hH p hp).2 e
  · omega
def CallPost (w0 : World) (g : Nat) (H : List (Nat × Obj)) (x : Int × DS) (e : Ending) (w' : World) : Prop := e = .returned (.int .i64 x.1) ∧ DK w0 w' g x.2 H
theorem Write_dk (h : DK w0 w g s H) (n : Int) (d : List UInt8) (hd : d.length = 64) (hlen : (s.pend.length + 1) * 72 ≤ 140737488355328) :
    Calls Tryd.prog 47 #[.pointer (some ⟨g, 0, none⟩), .int .i64 n, .agg (bvs d).toArray] w (CallPost w0 g H (s.write n d)) := by
  obtain ⟨own, S, P, hD, h0, hH⟩ := h
  exact (Write_any hD n d hd hlen).mono fun e w' h => ⟨h.1, DK.after hD h0 hH h.2⟩
theorem Sync_dk (h : DK w0 w g s H) : Calls Tryd.prog 35 #[.pointer (some ⟨g, 0, none⟩)] w (CallPost w0 g H s.sync) := by
  obtain ⟨own, S, P, hD, h0, hH⟩ := h
  exact (Sync_any hD).mono fun e w' h => ⟨h.1, DK.after hD h0 hH h.2⟩
theorem Read_dk (h : DK w0 w g s H) (n : Int) : Calls Tryd.prog 22 #[.pointer (some ⟨g, 0, none⟩), .int .i64 n] w
    fun e w' => e = .returned (.tuple #[.agg (bvs (s.read n).1).toArray, .int .i64 (s.read n).2]) ∧ DK w0 w' g s H := by
  have h' := h
  obtain ⟨own, S, P, hD, h0, hH⟩ := h
  exact (Read_any hD n).mono fun e w' hp => ⟨hp.1, h'.below hp.2⟩
theorem ownsRow_low {base base' : Nat} {e : TypeId} {size : Nat} {v : Value} {n : Nat} {xs : List Value} (h : w.ownsRow base e size v n xs) (hb : base' ≤ base) : w.ownsRow base' e size v n xs := by
  refine ⟨h.1, ?_⟩
  rcases h.2 with h | ⟨g', cap, cur, rfl, h1, h2⟩
  · exact .inl h
  · exact .inr ⟨g', cap, cur, rfl, Nat.le_trans hb h1, h2⟩
theorem New_dk (n : Nat) (h1 : 1 ≤ n) (h2 : n ≤ 65536) (h0 : Below w0.heap.size w0 w) (hH : ∀ p ∈ H, w.heap[p.1]? = some p.2) : Calls Tryd.prog 10 #[.int .i64 (n : Int)] w
    fun e w' => ∃ g, e = .returned (.tuple #[.pointer (some ⟨g, 0, none⟩), .int .i64 0]) ∧ DK w0 w' g (DS.fresh n) H := by
  refine (New_any n h1 h2 w).mono ?_
  rintro e w' ⟨g, S, P, he, hD, hb⟩
  refine ⟨g, he, fun k => w.heap.size ≤ k ∧ k < w'.heap.size, S, P, ⟨hD.ok, hD.blk, ownsRow_low hD.rowS h0.size, ownsRow_low hD.rowP h0.size, hD.ownG, hD.ownS, hD.ownP, fun k hk => ⟨Nat.le_trans h0.size (hD.bnd k hk).1, (hD.bnd k hk).2⟩, hD.gS, hD.gP, hD.sP⟩, h0.trans (hb.mono h0.size), fun p hp => ?_⟩
  have hlt := held_lt (hH p hp)
  exact ⟨(hb.block _ hlt).trans (hH p hp), fun e => by omega⟩
theorem alloc_lay (t : TypeId) : ∀ (vs : List Value) (o : Nat) (c : Array Value), (w.alloc (.cells c t)).setCells w.heap.size o vs = w.alloc (.cells (layL c.toList o vs).toArray t)
  | [], _, c => by simp [World.setCells, layL]
  | v :: vs, o, c => by
    rw [World.setCells, World.setCell_alloc_new, alloc_lay t vs (o + 1)]
    simp [layL]
theorem alloc_all (t : TypeId) (c v : Array Value) (h : c.size = v.size) : (w.alloc (.cells c t)).setCells w.heap.size 0 v.toList = w.alloc (.cells v t) := by
  rw [alloc_lay]
  have h1 := layL_front v.toList c.toList [] (by simpa using h)
  simp only [List.append_nil] at h1
  rw [h1]
theorem fillB_length (b : UInt8) : (fillB b).length = 64 := by simp [fillB]
end Go.Proofs.YtnkcnnmhgomphaaDoor

namespace Go.Proofs.YtnkcnnmhgomphaaDoor
open Go.RowKit
theorem write_in {s : DS} {n : Int} {d : List UInt8} (hn : 0 ≤ n ∧ n < (s.secs.length : Int)) (ho : s.op.1 = true) (hf : s.op.2.full = false) : s.write n d = (0, { s.op.2 with pend := s.op.2.pend ++ [(n.toNat, d)] }) := by
  unfold DS.write
  rw [if_pos hn, if_pos ho, if_neg (by rw [hf]; simp)]
end Go.Proofs.YtnkcnnmhgomphaaDoor

namespace Go.Proofs.YtnkcnnmhgomphaaDoor
open Go.RowKit
theorem range_of {w : World} {b : Nat} {cs : Array Value} {t : TypeId} (h : w.heap[b]? = some (.cells cs t)) : w.rangeAt b 0 cs.toList := fun j v hv => by
  rw [Nat.zero_add, cell_of_row w b j cs t (0, 0) h]
  simpa using hv
theorem wpList_load_want {P : Program} {ops : Array Oper} {rest : List Oper} {op : Oper} {a : Act} {w : World} {Q : Exit → Act → World → Prop} (hw : Region.wanted op (yielded ops a.tmps) = true) (ty : TypeId) (x : Operand) (ho : op.op = .load ty x)
    (b o : Nat) (hx : a.eval x = .pointer (some ⟨b, o, none⟩)) (cs : Array Value) (d : TypeDesc) (hc : w.rangeAt b o cs.toList)
    (hu : P.underlying ty = some d) (hd : d.isRow = true) (hi : (P.info? ty).map (·.size) = some cs.size)
    (h : wpList P ops Q rest (a.put op.dst (.agg cs)) w) : wpList P ops Q (op :: rest) a w := by
  unfold wpList
  rw [if_pos hw]
  exact .inl (wp_load_mid ty x ho b o hx cs.toList d hc hu hd (by rw [Array.length_toList]; exact hi) (by rw [Array.toArray_toList]; exact h))
theorem write_no {s : DS} {n : Int} {d : List UInt8} (hn : 0 ≤ n ∧ n < (s.secs.length : Int)) (ho : s.op.1 = true) (hf : s.op.2.full = true) : s.write n d = (5, s.op.2) := by
  unfold DS.write
  rw [if_pos hn, if_pos ho, if_pos hf]
theorem read_in {s : DS} {n : Int} (hn : 0 ≤ n ∧ n < (s.secs.length : Int)) (hd : s.down = false) : s.read n = (s.peek n.toNat, 0) := by
  unfold DS.read
  rw [if_pos hn, if_neg (by rw [hd]; simp)]
theorem full_chain (n : Nat) (hn : n < 256) (b : UInt8) : ∃ s1 s3 s4 s6, (DS.fresh 256).write n (fillB b) = (0, s1) ∧ DS.write { s1 with full := true } n (fillB (b + 1)) = (5, s3) ∧ s3.sync = (0, s4) ∧ s4.read n = (fillB b, 0) ∧
    DS.write { s4 with full := false } n (fillB (b + 2)) = (0, s6) ∧ s6.read n = (fillB (b + 2), 0) ∧ s1.pend.length = 1 ∧ s4.pend.length = 0 := by
  have hl : (DS.fresh 256).secs.length = 256 := List.length_replicate
  have hin : (0 : Int) ≤ (n : Int) ∧ (n : Int) < ((DS.fresh 256).secs.length : Int) := by rw [hl]; omega
  have hset : ((DS.fresh 256).secs.set n (fillB b))[n]? = some (fillB b) := by rw [List.getElem?_set_self (by rw [hl]; exact hn)]
  have hl2 : ((DS.fresh 256).secs.set n (fillB b)).length = 256 := by rw [List.length_set, hl]
  have hin2 : (0 : Int) ≤ (n : Int) ∧ (n : Int) < (((DS.fresh 256).secs.set n (fillB b)).length : Int) := by rw [hl2]; omega
  refine ⟨⟨(DS.fresh 256).secs, [(n, fillB b)], false, false, false, (wrap64 (0 - 1))⟩, ⟨(DS.fresh 256).secs, [(n, fillB b)], true, false, false, (wrap64 (wrap64 (0 - 1) - 1))⟩, ⟨(DS.fresh 256).secs.set n (fillB b), [], true, false, false, (wrap64 (wrap64 (wrap64 (0 - 1) - 1) - 1))⟩,
    ⟨(DS.fresh 256).secs.set n (fillB b), [(n, fillB (b + 2))], false, false, false, (wrap64 (wrap64 (wrap64 (wrap64 (0 - 1) - 1) - 1) - 1))⟩, ?_, ?_, ?_, ?_, ?_, ?_, rfl, rfl⟩
  · exact write_in hin rfl rfl
  · exact write_no (s := ⟨(DS.fresh 256).secs, [(n, fillB b)], true, false, false, (wrap64 (0 - 1))⟩) hin rfl rfl
  · rfl
  · rw [read_in (s := ⟨(DS.fresh 256).secs.set n (fillB b), [], true, false, false, (wrap64 (wrap64 (wrap64 (0 - 1) - 1) - 1))⟩) hin2 rfl]
    unfold DS.peek
    rw [Int.toNat_natCast, List.getD_eq_getElem?_getD]
    show ((none : Option (List UInt8)).getD (((DS.fresh 256).secs.set n (fillB b))[n]?.getD []), (0 : Int)) = _
    rw [hset]
    rfl
  · exact write_in (s := ⟨(DS.fresh 256).secs.set n (fillB b), [], false, false, false, (wrap64 (wrap64 (wrap64 (0 - 1) - 1) - 1))⟩) hin2 rfl rfl
  · rw [read_in (s := ⟨(DS.fresh 256).secs.set n (fillB b), [(n, fillB (b + 2))], false, false, false, (wrap64 (wrap64 (wrap64 (wrap64 (0 - 1) - 1) - 1) - 1))⟩) hin2 rfl]
    unfold DS.peek
    rw [Int.toNat_natCast, lastP_some (k := 0) (p := (n, fillB (b + 2))) (fun j p hp hj => by match j, hj with | j + 1, _ => simp at hp) rfl rfl]
    rfl
end Go.Proofs.YtnkcnnmhgomphaaDoor
