/- The texts G1 G2 Qt Lst8 H0 Bits of this work, merged by wip/merge.py. No conditions. -/
import Derived.Test.YtkbopeoaoakfnaaDoorQA
import Derived.Test.YtkbopeoaoakfnaaDoorQR
import Derived.Deep.MidRow
import Derived.Laws.CopyRow
import Derived.Laws.IdiomCopy
import Derived.StillTailTactics
import Derived.BigQuiet
import Derived.Deep.QuietTactic
import Derived.WalkKit
import Derived.Great.Ranges
namespace Go.Proofs.YtkbopeoaoakfnaaDoor
open Go.RowKit
section
variable {P : Program}
theorem AnyC.startB {id n : Nat} {Q' : Exit → Act → World → Prop} {a : Act} {w : World} {l : List Oper} (C : World → Prop) (hm : P.follows .mixedOrders = true) (hn : l.length = n)
    (h : ∀ w', Below w.heap.size w w' → w'.heap.size = w.heap.size → AnyC P l.toArray C (fun a w => Q' .normal a w) n (Array.replicate n false) a w') : (Code.region id l.toArray true).wp P Q' a w :=
  AnyC.start C hm hn (h { w with drawn := w.drawn + 1 } ⟨rfl, rfl, rfl, Nat.le_refl _, fun _ _ => rfl⟩ rfl)
end
theorem lt_of_heap {w : World} {b : Nat} {o : Obj} (h : w.heap[b]? = some o) : b < w.heap.size := by
  rcases Nat.lt_or_ge b w.heap.size with h' | h'
  · exact h'
  · rw [Array.getElem?_eq_none h'] at h; cases h
theorem heap_below {w w' : World} {b : Nat} {o : Obj} (h : w.heap[b]? = some o) (hb : Below w.heap.size w w') : w'.heap[b]? = some o := (hb.block _ (lt_of_heap h)).trans h
theorem there_alloc {w : World} {b o n : Nat} (h : w.there b o n) (hb : b < w.heap.size) (x : Obj) : (w.alloc x).there b o n := fun j hj => by
  have h1 := Below.heap_alloc w x b hb
  rw [World.cell?_of_block (a := ⟨b, o + j, none⟩) h1, World.frozen?_of_block (a := ⟨b, o + j, none⟩) h1]
  exact h j hj
theorem there_row {w : World} {b n : Nat} {cs : Array Value} {t : TypeId} (h : w.heap[b]? = some (.cells cs t (0, 0))) (hn : n ≤ cs.size) : w.there b 0 n := fun j hj => by
  refine ⟨?_, ?_⟩
  · rw [Nat.zero_add, cell_of_row w b j _ _ _ h, Array.getElem?_eq_getElem (by omega)]; rfl
  · simp only [World.frozen?, h]; rfl
theorem frozen_row {w : World} {b : Nat} {cs : Array Value} {t : TypeId} (h : w.heap[b]? = some (.cells cs t (0, 0))) (i : Nat) : w.frozen? ⟨b, i, none⟩ = false := by
  simp only [World.frozen?, h]; rfl
theorem there_new (w : World) (cs : Array Value) (t : TypeId) (n : Nat) (h : n ≤ cs.size) : (w.alloc (.cells cs t)).there w.heap.size 0 n := there_row (heap_alloc_new w _) h
theorem there_below {w w' : World} {b o n : Nat} (h : w.there b o n) (hb : b < w.heap.size) (hB : Below w.heap.size w w') : w'.there b o n := fun j hj => by
  have h1 := hB.block b hb
  rw [World.cell?_of_block (a := ⟨b, o + j, none⟩) h1, World.frozen?_of_block (a := ⟨b, o + j, none⟩) h1]
  exact h j hj
theorem range_row {w : World} {b : Nat} {cs : Array Value} {t : TypeId} {f : Nat × Nat} (h : w.heap[b]? = some (.cells cs t f)) : w.rangeAt b 0 cs.toList := fun j v hv => by
  rw [Nat.zero_add, cell_of_row w b j cs t f h]
  simpa using hv
theorem below_setCells {B b : Nat} {a : World} : ∀ (vs : List Value) (o : Nat) (w : World), Below B a w → B ≤ b → Below B a (w.setCells b o vs)
  | [], _, _, h, _ => h
  | v :: vs, o, _, h, hb => below_setCells vs (o + 1) _ (h.setCell (p := ⟨b, o, none⟩) hb v) hb
theorem heap_setCells_ne {b k : Nat} (hk : k ≠ b) : ∀ (vs : List Value) (o : Nat) (w : World), (w.setCells b o vs).heap[k]? = w.heap[k]?
  | [], _, _ => rfl
  | v :: vs, o, w => (heap_setCells_ne hk vs (o + 1) (w.setCell ⟨b, o, none⟩ v)).trans (Below.heap_setCell w ⟨b, o, none⟩ v k hk)
theorem wpList_load_arr {P : Program} {ops : Array Oper} {rest : List Oper} {op : Oper} {a : Act} {w : World} {Q : Exit → Act → World → Prop} (hgd : op.guard = none) (ty : TypeId) (x : Operand) (ho : op.op = .load ty x)
    (b o : Nat) (hx : a.eval x = .pointer (some ⟨b, o, none⟩)) (cs : Array Value) (d : TypeDesc) (hc : w.rangeAt b o cs.toList)
    (hu : P.underlying ty = some d) (hd : d.isRow = true) (hi : (P.info? ty).map (·.size) = some cs.size)
    (h : wpList P ops Q rest (a.put op.dst (.agg cs)) w) : wpList P ops Q (op :: rest) a w :=
  wpList_load_mid hgd ty x ho b o hx cs.toList d hc hu hd (by rw [Array.length_toList]; exact hi) (by rw [Array.toArray_toList]; exact h)
end Go.Proofs.YtkbopeoaoakfnaaDoor

namespace Go.Proofs.YtkbopeoaoakfnaaDoor
open Go.RowKit
/-- Only the blocks of ps have been written through; others were made. -/
structure Frm (ps : List Nat) (w w' : World) : Prop where
  os : w'.os = w.os
  tape : w'.tape = w.tape
  output : w'.output = w.output
  size : w.heap.size ≤ w'.heap.size
  block : ∀ k, k < w.heap.size → k ∉ ps → w'.heap[k]? = w.heap[k]?
theorem Frm.refl (ps : List Nat) (w : World) : Frm ps w w := ⟨rfl, rfl, rfl, Nat.le_refl _, fun _ _ _ => rfl⟩
theorem Frm.trans {ps : List Nat} {a b c : World} (h : Frm ps a b) (k : Frm ps b c) : Frm ps a c :=
  ⟨k.os.trans h.os, k.tape.trans h.tape, k.output.trans h.output, Nat.le_trans h.size k.size, fun i hi hn => (k.block i (Nat.lt_of_lt_of_le hi h.size) hn).trans (h.block i hi hn)⟩
theorem Frm.more {ps qs : List Nat} {w w' : World} (h : Frm ps w w') (hs : ∀ p ∈ ps, p ∈ qs) : Frm qs w w' := ⟨h.os, h.tape, h.output, h.size, fun k hk hn => h.block k hk fun hp => hn (hs k hp)⟩
theorem Frm.of_below {ps : List Nat} {w w' : World} (h : Below w.heap.size w w') : Frm ps w w' := ⟨h.os, h.tape, h.output, h.size, fun k hk _ => h.block k hk⟩
theorem Frm.below {ps : List Nat} {w w' : World} {B : Nat} (h : Frm ps w w') (hB : B ≤ w.heap.size) (hp : ∀ p ∈ ps, B ≤ p) : Below B w w' :=
  ⟨h.os, h.tape, h.output, h.size, fun k hk => h.block k (by omega) fun hk' => absurd (hp k hk') (by omega)⟩
theorem Frm.heap {ps : List Nat} {w w' : World} {b : Nat} {o : Obj} (h : Frm ps w w') (hb : w.heap[b]? = some o) (hn : b ∉ ps) : w'.heap[b]? = some o := (h.block b (lt_of_heap hb) hn).trans hb
theorem Frm.setCell (w : World) (b i : Nat) (v : Value) : Frm [b] w (w.setCell ⟨b, i, none⟩ v) := by
  have hs : (w.setCell ⟨b, i, none⟩ v).heap.size = w.heap.size := by unfold World.setCell; simp
  exact ⟨rfl, rfl, rfl, Nat.le_of_eq hs.symm, fun k _ hn => Below.heap_setCell w ⟨b, i, none⟩ v k (by simpa using hn)⟩
theorem heap_setRow {w : World} {b : Nat} {C cs : Array Value} {t : TypeId} {f : Nat × Nat} (h : w.heap[b]? = some (.cells C t f)) : (w.setRow b cs).heap[b]? = some (.cells cs t f) := by
  unfold World.setRow
  simp only [Array.getElem?_modify, if_pos, h, Option.map_some]
theorem Frm.setRow (w : World) (b : Nat) (cs : Array Value) : Frm [b] w (w.setRow b cs) ∧ (w.setRow b cs).heap.size = w.heap.size := by
  have hs : (w.setRow b cs).heap.size = w.heap.size := by unfold World.setRow; simp
  refine ⟨⟨rfl, rfl, rfl, Nat.le_of_eq hs.symm, fun k _ hn => ?_⟩, hs⟩
  unfold World.setRow
  simp only [Array.getElem?_modify]
  rw [if_neg (fun e => hn (by simp [e]))]
/-- copy of bytes into a row: what is there behind it. -/
theorem copy_row {w : World} {b off n c m c2 : Nat} {C : Array Value} {t : TypeId} {A : Option Addr} {x : List UInt8} {B : Nat} (h : w.heap[b]? = some (.cells C t (0, 0))) (hr : Reads w B 1 A m (bvs x)) (hx : x.length = m) (hfit : off + n ≤ C.size) :
    ∃ w1 : World, (∀ ty, (Builtin.copy_ #[64, 64] ty #[.slice (some ⟨b, off, none⟩) n c, .slice A m c2]).run Tryd.prog w = .ok (goInt (Nat.min m n)) w1) ∧
      w1.heap[b]? = some (.cells (C.toList.take off ++ bvs (x.take n) ++ C.toList.drop (off + Nat.min m n)).toArray t (0, 0)) ∧ Frm [b] w w1 ∧ w1.heap.size = w.heap.size := by
  by_cases h0 : Nat.min m n = 0
  · refine ⟨w, fun ty => ?_, ?_, Frm.refl _ _, rfl⟩
    · rw [h0]
      exact run_copy_none (P := Tryd.prog) w _ _ ty _ _ _ n c m c2 Tryd.underlying64 (by kernel_rfl) h0
    · have h1 : x.take n = [] := by
        apply List.eq_nil_of_length_eq_zero
        rw [List.length_take, hx, Nat.min_comm]
        exact h0
      rw [h1, h0, Nat.add_zero, show bvs ([] : List UInt8) = [] from rfl, List.append_nil, List.take_append_drop]
      exact h
  · have hm : 0 < m := by
      rcases Nat.eq_zero_or_pos m with e | e
      · subst e; exact absurd (Nat.zero_min n) h0
      · exact e
    obtain ⟨b2, off2, rfl, hb2, hc⟩ := hr.bytes hm
    have hlen : (bvs (x.take n)).length = Nat.min m n := by simp [bvs_length, hx, Nat.min_comm]
    refine ⟨w.setRow b (C.toList.take off ++ bvs (x.take n) ++ C.toList.drop (off + (bvs (x.take n)).length)).toArray, fun ty => ?_, ?_, (Frm.setRow w b _).1, (Frm.setRow w b _).2⟩
    · rw [show (goInt (Nat.min m n)) = goInt (bvs (x.take n)).length from by rw [hlen]]
      refine run_copy_row (P := Tryd.prog) w _ _ ty _ b off n c _ m c2 C t (bvs (x.take n)) Tryd.underlying64 (by kernel_rfl) h hlen ?_ ?_ ?_
      · intro j v hv
        rw [add_none]
        have hj : j < Nat.min m n := by
          rcases Nat.lt_or_ge j (Nat.min m n) with h' | h'
          · exact h'
          · rw [List.getElem?_eq_none (by rw [hlen]; exact h')] at hv; cases hv
        have hjm : j < m := Nat.lt_of_lt_of_le hj (Nat.min_le_left _ _)
        have hjn : j < n := Nat.lt_of_lt_of_le hj (Nat.min_le_right _ _)
        rw [hc j hjm]
        simp only [bvs, List.getElem?_map, List.getElem?_take, if_pos hjn] at hv
        rw [List.getElem?_eq_getElem (by omega)] at hv
        rw [List.getD_eq_getElem?_getD, List.getElem?_eq_getElem (by omega)]
        simpa [bv] using hv
      · have h_ : Nat.min m n ≤ n := Nat.min_le_right m n
        rw [hlen]
        omega
      · exact fun v hv => bvs_one _ v hv
    · rw [hlen]
      exact heap_setRow h
end Go.Proofs.YtkbopeoaoakfnaaDoor

namespace Go.Proofs.YtkbopeoaoakfnaaDoor
open Go
theorem still_of_quiet {P : Program} {o : Oper} {a : Act} {w : World} {K K' : Act → Prop} (hk : ∀ a, K a → K' a) (h : o.quiet P a (fun w' => w' = w) K) : o.still P a w K' := by
  obtain ⟨v, h1, h2⟩ := h
  have h3 := h1 w rfl
  unfold Oper.quietAt at h3
  unfold Oper.still
  generalize (execOp a.eval o).run P w = r at *
  cases r with
  | ok n w' =>
    cases n <;> simp only [Oper.quietUpon] at h3 <;> simp only [Oper.stillUpon]
    case value u =>
      obtain ⟨e1, e2⟩ := h3
      rw [e2]
      exact ⟨e1, hk _ h2⟩
    case skip =>
      obtain ⟨e1, e2⟩ := h3
      rw [← e2]
      exact ⟨e1, hk _ h2⟩
    case enter f args =>
      obtain ⟨e1, hc⟩ := h3
      exact ⟨e1, v, hc, hk _ h2⟩
  | halt x w' => simp only [Oper.quietUpon] at h3
theorem wpStill_of_quiet {P : Program} {ops : Array Oper} {w : World} {Q : Act → Prop} : ∀ (l : List Oper) (a : Act), wpQuiet P ops (fun w' => w' = w) Q l a → wpStill P ops w Q l a
  | [], _, h => h
  | o :: l, a, h => by
    unfold wpQuiet at h
    unfold wpStill
    split
    · rename_i hw
      rw [if_pos hw] at h
      exact still_of_quiet (fun a' h' => wpStill_of_quiet l a' h') h
    · rename_i hw
      rw [if_neg hw] at h
      exact wpStill_of_quiet l _ h
theorem wp_quiet_tail {P : Program} {id : Nat} {Q : Exit → Act → World → Prop} {a : Act} {w : World} {l : List Oper} (n : Nat) (hm : P.follows .mixedOrders = true) (hB : Region.lexTailB .any l.toArray n = true)
    (h : wpQuiet P l.toArray (fun w' => w' = w.drew) (fun a' => wpList P l.toArray Q (l.drop n) a' w.drew) (l.take n) a) : (Code.region id l.toArray true).wp P Q a w :=
  wp_region_still_tail n hm hB (wpStill_of_quiet _ _ h)
/-- A whole array loaded, in such a head. -/
theorem quiet_load_arr {P : Program} {o : Oper} {a : Act} {w0 : World} {K : Act → Prop} (ty : TypeId) (x : Operand) (ho : o.op = .load ty x) (b off : Nat) (hx : a.eval x = .pointer (some ⟨b, off, none⟩)) (cs : Array Value) (d : TypeDesc) (hc : w0.rangeAt b off cs.toList)
    (hu : P.underlying ty = some d) (hd : d.isRow = true) (hi : (P.info? ty).map (·.size) = some cs.size) (hk : K (a.put o.dst (.agg cs))) : o.quiet P a (fun w => w = w0) K := by
  refine ⟨.agg cs, fun w hw => ?_, hk⟩
  subst hw
  unfold Oper.quietAt execOp
  simp only [ho, hx, Instr.loadAt, Instr.sureAddr, Sem.run_bind, Sem.run_pure, Result.andThen_ok, run_loadVar_mid w b off ty cs.toList d hc hu hd (by rw [Array.length_toList]; exact hi), Array.toArray_toList]
  exact ⟨rfl, rfl⟩
end Go.Proofs.YtkbopeoaoakfnaaDoor

namespace Go.Proofs.YtkbopeoaoakfnaaDoor
open Go.RowKit
theorem own8_form {w : World} {base : Nat} {v : Value} {l : List UInt8} (h : Own8 w base v l) : ∃ A c, v = .slice A l.length c ∧ l.length ≤ c ∧ Reads w w.heap.size 1 A l.length (bvs l) := by
  have h0 := h
  obtain ⟨hl, h | ⟨g, cap, cur, rfl, hb, hh, hle, _⟩⟩ := h
  · obtain ⟨rfl, hn⟩ := h
    have : l = [] := List.eq_nil_of_length_eq_zero hn
    subst this
    exact ⟨none, 0, rfl, by simp, Reads.none_⟩
  · exact ⟨_, cap, rfl, hle, Reads.of_own h0⟩
theorem own8_form' {w : World} {base n : Nat} {v : Value} {l : List UInt8} (h : Own8 w base v l) (hl : l.length = n) : ∃ A c, v = .slice A n c ∧ n ≤ c ∧ Reads w w.heap.size 1 A n (bvs l) := by
  subst hl; exact own8_form h
theorem own8_keep {w w' : World} {base : Nat} {v : Value} {l : List UInt8} {row : Option Nat} (h : Own8 w base v l) (hg : w.grownBy w' row) (hne : v.ownBlock = none ∨ v.ownBlock ≠ row) : Own8 w' base v l := World.ownsRow.kept h hg hne
theorem own8_lt {w : World} {base : Nat} {v : Value} {l : List UInt8} (h : Own8 w base v l) : ∀ k, v.ownBlock = some k → base ≤ k ∧ k < w.heap.size := World.ownsRow.lt h
theorem own8_base {w : World} {base base' : Nat} {v : Value} {l : List UInt8} (h : Own8 w base v l) (hb : base' ≤ base) : Own8 w base' v l := by
  obtain ⟨hl, h | ⟨g, cap, cur, h1, h2, h3⟩⟩ := h
  · exact ⟨hl, .inl h⟩
  · exact ⟨hl, .inr ⟨g, cap, cur, h1, by omega, h3⟩⟩
theorem grown_of_below {w w' : World} (h : Below w.heap.size w w') (row : Option Nat) : w.grownBy w' row := ⟨h.os, h.tape, h.output, h.size, fun k hk _ => h.block k hk⟩
theorem own8_below {w w' : World} {base : Nat} {v : Value} {l : List UInt8} (h : Own8 w base v l) (hb : Below w.heap.size w w') : Own8 w' base v l := own8_keep h (grown_of_below hb none) (by cases v.ownBlock <;> simp)
theorem run_str8 {w : World} {B n : Nat} {A : Option Addr} {l : List UInt8} (hr : Reads w B 1 A n (bvs l)) (c : Nat) : (convert 64 9 (.slice A n c)).run Tryd.prog w = .ok (.string ⟨l.toArray⟩) w := by
  have hm : n = l.length := by have := hr.1; rw [bvs_length] at this; omega
  subst hm
  cases A with
  | none =>
    have hn : l = [] := by
      cases l with
      | nil => rfl
      | cons a l => obtain ⟨_, h, _⟩ := hr.2 (by simp); cases h
    subst hn
    rw [run_convert_bytes_nil w 64 5 Tryd.underlying64 Tryd.underlying5 _ _ _ Tryd.underlying9]
    rfl
  | some ad =>
    refine run_convert_bytes_back (P := Tryd.prog) w 64 9 5 ad c l Tryd.underlying64 Tryd.underlying5 Tryd.underlying9 fun j hj => ?_
    obtain ⟨ad', h, _, hc⟩ := hr.2 (by omega)
    cases h
    exact hc j _ (by simp [bvs, bv, List.getElem?_eq_getElem hj])
end Go.Proofs.YtkbopeoaoakfnaaDoor

namespace Go.Proofs.YtkbopeoaoakfnaaDoor
open Go.RowKit
theorem slice1 {ops : Array Oper} {rest : List Oper} {o : Oper} {a : Act} {w : World} {Q : Exit → Act → World → Prop} {x : Operand} {cs : Array Value} {t e : TypeId} {s : Nat} {ie : TypeInfo} {z : Value} (hg : o.guard = none) (ho : o.op = .buildSlice t 1 #[(0, x)])
    (hx : a.eval x = .agg cs) (hl : cs.size = s) (hu : Tryd.prog.underlying t = some (.slice e)) (hie : Tryd.prog.info? e = some ie) (hz : ie.zero = some z) (hsz : ie.size = s) (hs : 0 < s ∧ s ≤ 1000)
    (h : wpList Tryd.prog ops Q rest (a.put o.dst (.slice (some ⟨w.heap.size, 0, none⟩) 1 1)) (w.alloc (.cells cs e))) : wpList Tryd.prog ops Q (o :: rest) a w := by
  refine wpList_buildSlice hg t e 1 _ ho cs ie z hu hie hz (by rw [hsz]; omega) (by rw [hsz]; omega) ?_ h
  simp only [List.map_toArray, List.map_cons, List.map_nil, hx, hsz]
  have := Go.Great.fill_whole (s := s) hs.1 [Value.agg cs] ((Array.range (1 * s)).map (z.cells[· % z.cells.size]!)) (fun v hv => by simp at hv; subst hv; simp [Value.cells, hl]) (by simp)
  refine this.trans ?_
  simp [Value.cells]
theorem oneReads {w : World} {g s : Nat} {cs : Array Value} {t : TypeId} {f : Nat × Nat} (h : w.heap[g]? = some (.cells cs t f)) (hs : cs.size = s) : Reads w w.heap.size s (some ⟨g, 0, none⟩) 1 cs.toList := by
  refine ⟨by simp [hs], fun _ => ⟨_, rfl, lt_of_heap h, fun j u hu => ?_⟩⟩
  rw [add_none, cell_of_row w g _ _ _ _ h, Nat.zero_add]
  simpa using hu
theorem app1 {ops : Array Oper} {rest : List Oper} {o : Oper} {a : Act} {w : World} {Q : Exit → Act → World → Prop} {sl x : Operand} {base n g : Nat} {v : Value} {xs : List Value} {cs : Array Value} {t e : TypeId} {s y : Nat} {ie : TypeInfo} {z : Value} {f : Nat × Nat}
    (hgd : o.guard = none) (ho : o.op = .call { callee := .builtin .append, args := #[sl, x], argTypes := #[t, t] }) (hs : a.eval sl = v) (hx : a.eval x = .slice (some ⟨g, 0, none⟩) 1 1)
    (hu : Tryd.prog.underlying t = some (.slice e)) (hie : Tryd.prog.info? e = some ie) (hz : ie.zero = some z) (hsz : ie.size = s) (hby : ie.bytes = y) (hzs : z.cells.size = s) (hs0 : 0 < s)
    (hown : w.ownsRow base e s v n xs) (hblk : w.heap[g]? = some (.cells cs e f)) (hcs : cs.size = s) (h1 : (cs.all fun u => u.oneCell') = true) (hn : (n + 1) * y ≤ 140737488355328) (hn2 : n + 1 ≤ 140737488355328) (hbase : base ≤ w.heap.size)
    (h : ∀ v' w', w'.ownsRow base e s v' (n + 1) (xs ++ cs.toList) → w.grownBy w' v.ownBlock → (v'.ownBlock = v.ownBlock ∨ v'.ownBlock = some w.heap.size) → wpList Tryd.prog ops Q rest (a.put o.dst v') w') : wpList Tryd.prog ops Q (o :: rest) a w :=
  wpList_append_any w hgd sl x t ho base e ie z s y hu hie hz hsz hby hzs hs0 v n xs hs hown w.heap.size _ 1 1 cs.toList hx (oneReads hblk hcs) (fun u hu => by
    have h2 := Array.all_eq_true'.1 h1 u (by simpa using hu)
    exact h2) (by simp only [maxLen]; omega) hn hbase h
theorem ownR_form {w : World} {base : Nat} {e : TypeId} {s n : Nat} {v : Value} {xs : List Value} (h : w.ownsRow base e s v n xs) : ∃ A c, v = .slice A n c ∧ n ≤ c ∧ Reads w w.heap.size s A n xs := by
  have hr := h
  obtain ⟨hl, h0 | ⟨g, cap, cur, rfl, hb, hh, hle, _⟩⟩ := h
  · obtain ⟨rfl, rfl⟩ := h0
    exact ⟨none, 0, rfl, Nat.le_refl _, hl, fun h0 => absurd h0 (by omega)⟩
  · exact ⟨_, cap, rfl, hle, Reads.of_own hr⟩
theorem ownR_frms {w w' : World} {base : Nat} {e : TypeId} {s n : Nat} {v : Value} {xs : List Value} {ps : List Nat} (h : w.ownsRow base e s v n xs) (hf : Frm ps w w') (hp : ∀ q ∈ ps, q < base ∨ v.ownBlock ≠ some q) : w'.ownsRow base e s v n xs := by
  obtain ⟨hl, h | ⟨g, cap, cur, h1, h2, h3, h4⟩⟩ := h
  · exact ⟨hl, .inl h⟩
  · refine ⟨hl, .inr ⟨g, cap, cur, h1, h2, ?_, h4⟩⟩
    refine (hf.block g (lt_of_heap h3) (fun hg => ?_)).trans h3
    rcases hp g hg with h5 | h5
    · omega
    · exact h5 (by rw [h1]; rfl)
theorem own_other {w w' : World} {b : Nat} {o : Obj} {v : Value} (h : w.heap[b]? = some o) (hg : w.grownBy w' v.ownBlock) (hne : v.ownBlock ≠ some b) : w'.heap[b]? = some o := (hg.block b (lt_of_heap h) (fun e => hne e.symm)).trans h
theorem ownR_other {w w' : World} {base : Nat} {e : TypeId} {s n : Nat} {u v : Value} {xs : List Value} (h : w.ownsRow base e s v n xs) (hg : w.grownBy w' u.ownBlock) (hne : ∀ k, u.ownBlock = some k → v.ownBlock ≠ some k) : w'.ownsRow base e s v n xs := by
  refine World.ownsRow.kept h hg ?_
  cases hv : v.ownBlock with
  | none => exact .inl rfl
  | some k => exact .inr (fun h2 => hne k h2.symm hv)
theorem ownR_below {w w' : World} {base : Nat} {e : TypeId} {s n : Nat} {v : Value} {xs : List Value} (h : w.ownsRow base e s v n xs) (hb : Below w.heap.size w w') : w'.ownsRow base e s v n xs := World.ownsRow.kept h (grown_of_below hb none) (by cases v.ownBlock <;> simp)
theorem Frm.of_grown {w w' : World} {v : Value} (h : w.grownBy w' v.ownBlock) : Frm v.ownBlock.toList w w' := ⟨h.os, h.tape, h.output, h.size, fun k hk hn => h.block k hk (fun e => hn (by rw [← e]; simp))⟩
theorem reads_block {w : World} {b : Nat} {l : List UInt8} {t : TypeId} {f : Nat × Nat} {n : Nat} (h : w.heap[b]? = some (.cells (bvs l).toArray t f)) (hn : l.length = n) : Reads w w.heap.size 1 (some ⟨b, 0, none⟩) n (bvs l) := by
  subst hn
  refine ⟨by simp [bvs_length], fun _ => ⟨_, rfl, lt_of_heap h, fun j u hu => ?_⟩⟩
  rw [add_none]
  show w.cell? ⟨b, 0 + j, none⟩ = _
  rw [Nat.zero_add, cell_of_row w b j _ _ _ h]
  simpa using hu
end Go.Proofs.YtkbopeoaoakfnaaDoor

namespace Go.Proofs.YtkbopeoaoakfnaaDoor
theorem ofInt_i64 (a : Nat) (ha : a < 9223372036854775808) : (BitVec.ofInt 64 (a : Int)).toNat = a := by
  rw [BitVec.ofInt_natCast, BitVec.toNat_ofNat]; exact Nat.mod_eq_of_lt (by omega)
theorem i64_or_nat (a b : Nat) (ha : a < 9223372036854775808) (hb : b < 9223372036854775808) : bits .or .i64 (a : Int) (b : Int) = ((a ||| b : Nat) : Int) := by
  have hx : a ||| b < 2 ^ 63 := Nat.or_lt_two_pow (by omega) (by omega)
  show IntKind.i64.wrap ((BitVec.ofInt 64 (a : Int) ||| BitVec.ofInt 64 (b : Int)).toNat : Int) = _
  rw [BitVec.toNat_or, ofInt_i64 a ha, ofInt_i64 b hb, IntKind.wrap_i64]
  omega
theorem or_add (x b k : Nat) (hb : b < 2 ^ k) : (x * 2 ^ k) ||| b = x * 2 ^ k + b := by
  rw [Nat.mul_comm, ← Nat.two_pow_add_eq_or_of_lt hb]
theorem or_four (a b c d : Nat) (ha : a < 256) (hb : b < 256) (hc : c < 256) (hd : d < 256) :
    bits .or .i64 (bits .or .i64 (bits .or .i64 ((a : Int) * 16777216) ((b : Int) * 65536)) ((c : Int) * 256)) (d : Int) = ((a * 16777216 + b * 65536 + c * 256 + d : Nat) : Int) := by
  have e1 : bits .or .i64 ((a : Int) * 16777216) ((b : Int) * 65536) = ((a * 16777216 + b * 65536 : Nat) : Int) := by
    have := i64_or_nat (a * 16777216) (b * 65536) (by omega) (by omega)
    rw [show a * 16777216 ||| b * 65536 = a * 16777216 + b * 65536 from or_add a (b * 65536) 24 (by omega)] at this
    rw [← this]; simp
  have e2 : bits .or .i64 ((a * 16777216 + b * 65536 : Nat) : Int) ((c : Int) * 256) = ((a * 16777216 + b * 65536 + c * 256 : Nat) : Int) := by
    have := i64_or_nat (a * 16777216 + b * 65536) (c * 256) (by omega) (by omega)
    rw [show (a * 16777216 + b * 65536) ||| c * 256 = a * 16777216 + b * 65536 + c * 256 from by
      have := or_add (a * 256 + b) (c * 256) 16 (by omega)
      rw [show (a * 256 + b) * 2 ^ 16 = a * 16777216 + b * 65536 from by omega] at this
      exact this] at this
    rw [← this]; simp
  have e3 : bits .or .i64 ((a * 16777216 + b * 65536 + c * 256 : Nat) : Int) (d : Int) = ((a * 16777216 + b * 65536 + c * 256 + d : Nat) : Int) := by
    have := i64_or_nat (a * 16777216 + b * 65536 + c * 256) d (by omega) (by omega)
    rw [show (a * 16777216 + b * 65536 + c * 256) ||| d = a * 16777216 + b * 65536 + c * 256 + d from by
      have := or_add (a * 65536 + b * 256 + c) d 8 (by omega)
      rw [show (a * 65536 + b * 256 + c) * 2 ^ 8 = a * 16777216 + b * 65536 + c * 256 from by omega] at this
      exact this] at this
    exact this
  rw [e1, e2, e3]
theorem ofInt_u64 (a : Nat) (ha : a < 18446744073709551616) : (BitVec.ofInt 64 (a : Int)).toNat = a := by
  rw [BitVec.ofInt_natCast, BitVec.toNat_ofNat]; exact Nat.mod_eq_of_lt (by omega)
theorem u64_or_nat (a b : Nat) (ha : a < 18446744073709551616) (hb : b < 18446744073709551616) : bits .or .u64 (a : Int) (b : Int) = ((a ||| b : Nat) : Int) := by
  have hx : a ||| b < 2 ^ 64 := Nat.or_lt_two_pow (by omega) (by omega)
  show IntKind.u64.wrap ((BitVec.ofInt 64 (a : Int) ||| BitVec.ofInt 64 (b : Int)).toNat : Int) = _
  rw [BitVec.toNat_or, ofInt_u64 a ha, ofInt_u64 b hb]
  have : IntKind.u64.wrap ((a ||| b : Nat) : Int) = (((a ||| b : Nat) : Int)) % 18446744073709551616 := by
    simp [IntKind.wrap, IntKind.signed, IntKind.bits]
  rw [this]; omega
theorem or_u32 (a b : Nat) (ha : a < 4294967296) (hb : b < 4294967296) : bits .or .u64 ((a : Int) * 4294967296) (b : Int) = ((a * 4294967296 + b : Nat) : Int) := by
  have := u64_or_nat (a * 4294967296) b (by omega) (by omega)
  rw [show a * 4294967296 ||| b = a * 4294967296 + b from or_add a b 32 (by omega)] at this
  rw [← this]; simp
end Go.Proofs.YtkbopeoaoakfnaaDoor
