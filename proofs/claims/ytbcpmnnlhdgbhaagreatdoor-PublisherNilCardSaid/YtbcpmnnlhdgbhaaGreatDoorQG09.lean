/- The texts BK2 Q6 F0 F1 FE1 Mul1 S0 of this work, merged by wip/merge.py. No conditions. -/
import Derived.Test.YtbcpmnnlhdgbhaaGreatDoorQG08
import Derived.Test.YtbcpmnnlhdgbhaaGreatDoorQG07
import Derived.Test.YtbcpmnnlhdgbhaaGreatDoorQG05
import Derived.Test.YtbcpmnnlhdgbhaaGreatDoorQG00
import Derived.Deep.QuietTactic
import Derived.Test.YtbcpmnnlhdgbhaaGreatDoorProg
import Derived.Test.YtbcpmnnlhdgbhaaGreatDoorQG03
import Derived.Shelf.Spec.BitsCarry
import Derived.Deep.DeepMust
import Derived.BigQuiet
import Derived.Deep.MidRow
namespace Go.Proofs.YtbcpmnnlhdgbhaaGreatDoor
open Go.RowKit Go.Lib
section
variable {ops : Array Oper} {rest : List Oper} {o : Oper} {a : Act} {w0 w : World} {Q : Exit → Act → World → Prop} {bs : List (Nat × Array Value × TypeId)}
/-- A new block that holds a copy of an array or a struct. -/
theorem s_box (F : BK w0 w bs) (hg : o.guard = none) {ty : TypeId} {x : Operand} (ho : o.op = .box ty x) {cs : Array Value} (hx : a.eval x = .agg cs) {s : Nat} (hd : o.dst = some s)
    (h : ∀ w' b, BK w0 w' ((b, cs, ty) :: bs) → Below w.heap.size w w' → wpList Tryz.prog ops Q rest (a.put (some s) (.pointer (some ⟨b, 0, none⟩))) w') : wpList Tryz.prog ops Q (o :: rest) a w := by
  refine wpList_plain hg fun _ hK => ?_
  unfold Oper.wp execOp
  have h1 : (Instr.box ty (.agg cs)).run Tryz.prog w = .ok (.pointer (some ⟨w.heap.size, 0, none⟩)) (w.alloc (.cells cs ty)) := rfl
  simp only [ho, hx, h1, Sem.run_bind, Sem.run_pure, Result.andThen_ok]
  refine hK _ _ ?_
  rw [hd]
  exact h _ _ (F.alloc rfl cs ty) ((Below.refl _ _).alloc (Nat.le_refl _) _)
theorem s_alloc (F : BK w0 w bs) (hg : o.guard = none) {ty : TypeId} (ho : o.op = .alloc ty) {cs : Array Value} (hz : ∀ w, (zeroValue ty).run Tryz.prog w = .ok (.agg cs) w) {s : Nat} (hd : o.dst = some s)
    (h : ∀ w' b, BK w0 w' ((b, cs, ty) :: bs) → Below w.heap.size w w' → wpList Tryz.prog ops Q rest (a.put (some s) (.pointer (some ⟨b, 0, none⟩))) w') : wpList Tryz.prog ops Q (o :: rest) a w := by
  refine wpList_plain hg fun _ hK => ?_
  unfold Oper.wp execOp
  have h1 : (Instr.alloc ty true (.tuple #[])).run Tryz.prog w = .ok (.pointer (some ⟨w.heap.size, 0, none⟩)) (w.alloc (.cells cs ty)) := by
    simp only [Instr.alloc, hz, Sem.run_bind, Sem.run_pure, Result.andThen_ok]
    rfl
  simp only [ho, h1, Sem.run_bind, Sem.run_pure, Result.andThen_ok]
  refine hK _ _ ?_
  rw [hd]
  exact h _ _ (F.alloc rfl cs ty) ((Below.refl _ _).alloc (Nat.le_refl _) _)
/-- A whole block is written. -/
theorem s_store (F : BK w0 w bs) (hg : o.guard = none) {ty : TypeId} {x y : Operand} (ho : o.op = .store ty x y) (i : Nat) {b : Nat} {c : Array Value} {t : TypeId} (hi : bs[i]? = some (b, c, t)) (hx : a.eval x = .pointer (some ⟨b, 0, none⟩))
    (v : Array Value) (hy : a.eval y = .agg v) (hs : v.size = c.size) (hsz : (Tryz.prog.info? ty).map (·.size) = some v.size) (h1 : v.all (·.oneCell') = true)
    (h : ∀ w', BK w0 w' (bs.set i (b, v, t)) → wpList Tryz.prog ops Q rest (a.put o.dst undef) w') : wpList Tryz.prog ops Q (o :: rest) a w :=
  wpList_store_mid hg ty x y ho b 0 v hx hy (by rw [hs]; exact F.there i hi) hsz h1 (h _ (F.put i hi v hs))
/-- A part of a block is read. -/
theorem s_load (F : BK w0 w bs) (hg : o.guard = none) {ty : TypeId} {x : Operand} (ho : o.op = .load ty x) (i : Nat) {b : Nat} {c : Array Value} {t : TypeId} (hi : bs[i]? = some (b, c, t)) (off : Nat) (hx : a.eval x = .pointer (some ⟨b, off, none⟩))
    (v : Array Value) (hv : ∀ j, j < v.toList.length → c[off + j]? = v.toList[j]?) {d : TypeDesc} (hu : Tryz.prog.underlying ty = some d) (hrow : d.isRow = true) (hsz : (Tryz.prog.info? ty).map (·.size) = some v.size)
    (h : wpList Tryz.prog ops Q rest (a.put o.dst (.agg v)) w) : wpList Tryz.prog ops Q (o :: rest) a w :=
  wpList_load_arr hg ty x ho b off hx v d (rangeAt_part (F.mem hi) off v.toList hv) hu hrow hsz h
/-- One cell of a block is written. -/
theorem s_set64 (F : BK w0 w bs) (hg : o.guard = none) {x y : Operand} (ho : o.op = .store 30 x y) (i : Nat) {b : Nat} {c : Array Value} {t : TypeId} (hi : bs[i]? = some (b, c, t)) (k : Nat) (hk : k < c.size) (hx : a.eval x = .pointer (some ⟨b, k, none⟩))
    (n : Int) (hy : a.eval y = .int .u64 n) (h : ∀ w', BK w0 w' (bs.set i (b, c.setIfInBounds k (.int .u64 n), t)) → wpList Tryz.prog ops Q rest (a.put o.dst undef) w') : wpList Tryz.prog ops Q (o :: rest) a w := by
  refine wpList_plain hg fun K hK => ?_
  have h2 := F.cell i hi k
  rw [Array.getElem?_eq_getElem hk] at h2
  have h3 := F.free i hi k
  have h4 := hK _ _ (h _ (F.put1 i hi k _))
  unfold Oper.wp execOp
  simp only [ho, hx, hy]
  simp [go_sem, h2, h3]
  exact h4
theorem s_set8 (F : BK w0 w bs) (hg : o.guard = none) {x y : Operand} (ho : o.op = .store 5 x y) (i : Nat) {b : Nat} {c : Array Value} {t : TypeId} (hi : bs[i]? = some (b, c, t)) (k : Nat) (hk : k < c.size) (hx : a.eval x = .pointer (some ⟨b, k, none⟩))
    (n : Int) (hy : a.eval y = .int .u8 n) (h : ∀ w', BK w0 w' (bs.set i (b, c.setIfInBounds k (.int .u8 n), t)) → wpList Tryz.prog ops Q rest (a.put o.dst undef) w') : wpList Tryz.prog ops Q (o :: rest) a w := by
  refine wpList_plain hg fun K hK => ?_
  have h2 := F.cell i hi k
  rw [Array.getElem?_eq_getElem hk] at h2
  have h3 := F.free i hi k
  have h4 := hK _ _ (h _ (F.put1 i hi k _))
  unfold Oper.wp execOp
  simp only [ho, hx, hy]
  simp [go_sem, h2, h3]
  exact h4
end
end Go.Proofs.YtbcpmnnlhdgbhaaGreatDoor

namespace Go.Proofs.YtbcpmnnlhdgbhaaGreatDoor
open Go.RowKit
def z8q : R8 := ⟨7640891576956012808, 13503953896175478587, 4354685564936845355, 11912009170470909681, 5840696475078001361, 11170449401992604703, 2270897969802886507, 6620516959819538809⟩
/-- So many blocks of m, from R. -/
def runQ (K : List Int) (R : R8) (m : List UInt8) : Nat → R8
  | 0 => R
  | i + 1 => blockQ K (runQ K R m i) (m.drop (128 * i))
def tailQ (m : List UInt8) (sz : Nat) : List UInt8 := m.drop (128 * (m.length / 128)) ++ 128 :: (List.replicate (sz - 8 - (m.length % 128 + 1)) 0 ++ appB ((m.length : Int) * 8) 8 8)
def sizeQ (m : List UInt8) : Nat := if 112 < m.length % 128 + 1 then 256 else 128
def outQ (R : R8) (i : Nat) : List UInt8 := (R.l.take i).flatMap fun x => appB x 8 8
def sum512F (K : List Int) (m : List UInt8) : List UInt8 := outQ (runQ K (runQ K z8q m (m.length / 128)) (tailQ m (sizeQ m)) (sizeQ m / 128)) 8
theorem outQ_succ {R : R8} {i : Nat} {x : Int} (h : R.l[i]? = some x) : outQ R (i + 1) = outQ R i ++ appB x 8 8 := by
  unfold outQ
  rw [List.take_add_one, h]
  simp
theorem outQ_len (R : R8) (i : Nat) (h : i ≤ 8) : (outQ R i).length = 8 * i := by
  have h1 : ∀ l : List Int, (l.flatMap fun x => appB x 8 8).length = 8 * l.length := by
    intro l
    induction l with
    | nil => rfl
    | cons x r ih => rw [List.flatMap_cons, List.length_append, ih, appB_len, List.length_cons]; omega
  unfold outQ
  rw [h1, List.length_take, l_len]
  omega
theorem sum512F_len (K : List Int) (m : List UInt8) : (sum512F K m).length = 64 := outQ_len _ 8 (by omega)
theorem tailQ_len (m : List UInt8) {sz : Nat} (h : m.length % 128 + 9 ≤ sz) : (tailQ m sz).length = sz := by
  unfold tailQ
  simp only [List.length_append, List.length_drop, List.length_cons, List.length_replicate, appB_len]
  omega
theorem bvs_rep (N : Nat) : bvs (List.replicate N 0) = List.replicate N (bv 0) := by unfold bvs; rw [List.map_replicate]
theorem overL_zero (N : Nat) (q : List UInt8) : overL (bvs (List.replicate N 0)).toArray 0 q = (bvs q ++ List.replicate (N - q.length) (bv 0)).toArray := by
  unfold overL
  rw [List.take_zero, List.nil_append, bvs_rep, Nat.zero_add, List.drop_replicate]
theorem overL_take (q l : List UInt8) (n k : Nat) (h1 : q.length ≤ n) (h2 : n ≤ q.length + k) : (overL (bvs q ++ List.replicate k (bv 0)).toArray n l).toList.take (n + l.length) = bvs q ++ (List.replicate (n - q.length) (bv 0) ++ bvs l) := by
  unfold overL
  show ((List.take n (bvs q ++ List.replicate k (bv 0)) ++ bvs l) ++ List.drop (n + l.length) (bvs q ++ List.replicate k (bv 0))).take (n + l.length) = _
  have e : List.take n (bvs q ++ List.replicate k (bv 0)) = bvs q ++ List.replicate (n - q.length) (bv 0) := by
    rw [List.take_append, List.take_of_length_le (by rw [bvs_length]; exact h1), bvs_length, List.take_replicate, Nat.min_eq_left (by omega)]
  rw [e]
  have hl : (bvs q ++ List.replicate (n - q.length) (bv 0) ++ bvs l).length = n + l.length := by
    rw [List.length_append, List.length_append, List.length_replicate, bvs_length, bvs_length]; omega
  rw [← hl, List.take_left, List.append_assoc]
/-- The tail, as it is filled. -/
theorem tail_row (m : List UInt8) {sz N : Nat} (h : m.length % 128 + 9 ≤ sz) (hs : sz ≤ N) : (overL (overL (bvs (List.replicate N 0)).toArray 0 (m.drop (128 * (m.length / 128)) ++ [128])) (sz - 8) (appB ((m.length : Int) * 8) 8 8)).toList.take sz = bvs (tailQ m sz) := by
  obtain ⟨p, hp⟩ : ∃ p, p = m.drop (128 * (m.length / 128)) := ⟨_, rfl⟩
  have hl : p.length = m.length % 128 := by rw [hp, List.length_drop]; omega
  unfold tailQ
  rw [← hp]
  obtain ⟨l, hll⟩ : ∃ l, l = appB ((m.length : Int) * 8) 8 8 := ⟨_, rfl⟩
  have hl8 : l.length = 8 := by rw [hll, appB_len]
  rw [← hll, ← hl]
  have hq : (p ++ [128]).length = p.length + 1 := by simp
  have h3 := overL_take (p ++ [128]) l (sz - 8) (N - (p ++ [128]).length) (by rw [hq]; omega) (by rw [hq]; omega)
  rw [hl8, show sz - 8 + 8 = sz from by omega] at h3
  rw [overL_zero, h3, hq]
  simp [bvs, List.map_replicate]
theorem BK.set_of2 {w0 w w' : World} {bs : List (Nat × Array Value × TypeId)} (h : BK w0 w bs) (i : Nat) {b : Nat} {c v : Array Value} {t : TypeId} (hi : bs[i]? = some (b, c, t)) (hB : Below w0.heap.size w0 w')
    (hr : w'.heap[b]? = some (.cells v t (0, 0))) (ho : ∀ k, k < w.heap.size → k ≠ b → w'.heap[k]? = w.heap[k]?) : BK w0 w' (bs.set i (b, v, t)) := by
  have hi1 : i < bs.length := (List.getElem?_eq_some_iff.1 hi).1
  have hmap : (bs.set i (b, v, t)).map (·.1) = bs.map (·.1) := by
    apply List.ext_getElem?
    intro k
    rw [List.getElem?_map, List.getElem?_map, List.getElem?_set]
    split
    · rename_i h1; subst h1; simp [hi1]
      have := (List.getElem?_eq_some_iff.1 hi).2
      rw [this]
    · rfl
  refine ⟨hB, by rw [hmap]; exact h.nodup, fun e he => ?_, fun e he => ?_⟩
  · have : e.1 ∈ (bs.set i (b, v, t)).map (·.1) := List.mem_map.2 ⟨e, he, rfl⟩
    rw [hmap] at this
    obtain ⟨f, hf, h1⟩ := List.mem_map.1 this
    rw [← h1]
    exact h.own f hf
  · obtain ⟨k, hk⟩ := List.getElem?_of_mem he
    rw [List.getElem?_set] at hk
    split at hk
    · rename_i h1
      subst h1
      simp only [Option.some.injEq] at hk
      subst hk
      exact hr
    · rename_i h1
      have h2 := h.row e (List.mem_of_getElem? hk)
      rw [ho _ (lt_of_heap h2) (fun e2 => nodup_ne h.nodup hi hk h1 e2.symm)]
      exact h2
theorem BK.frm {w0 w w' : World} {bs : List (Nat × Array Value × TypeId)} (h : BK w0 w bs) (i : Nat) {b : Nat} {c v : Array Value} {t : TypeId} (hi : bs[i]? = some (b, c, t)) (hf : Frm [b] w w') (hr : w'.heap[b]? = some (.cells v t (0, 0))) : BK w0 w' (bs.set i (b, v, t)) :=
  h.set_of2 i hi (h.below.trans (hf.below h.below.size (by have := h.own _ (List.mem_of_getElem? hi); simpa using this))) hr (fun k hk hne => hf.block k hk (by simpa using hne))
theorem BK.rowIn {w0 w w' : World} {bs : List (Nat × Array Value × TypeId)} (h : BK w0 w bs) (i : Nat) {b : Nat} {c v : Array Value} {t : TypeId} (hi : bs[i]? = some (b, c, t)) (hf : RowIn w b t v w') : BK w0 w' (bs.set i (b, v, t)) :=
  h.frm i hi ⟨hf.2.os, hf.2.tape, hf.2.output, hf.2.size, fun k hk hn => hf.2.block k hk (by simpa using hn)⟩ hf.1
section
variable {ops : Array Oper} {rest : List Oper} {o : Oper} {a : Act} {w0 w : World} {Q : Exit → Act → World → Prop} {bs : List (Nat × Array Value × TypeId)}
theorem s_make (F : BK w0 w bs) (hg : o.guard = none) {ty : TypeId} {x y : Operand} (ho : o.op = .makeSlice ty x y) {cs : Array Value} {t : TypeId} {n c : Nat} (hm : ∀ w, (Instr.makeSlice ty (a.eval x) (a.eval y)).run Tryz.prog w = .ok (.slice (some ⟨w.heap.size, 0, none⟩) n c) (w.alloc (.cells cs t))) {s : Nat} (hd : o.dst = some s)
    (h : ∀ w' b, BK w0 w' ((b, cs, t) :: bs) → Below w.heap.size w w' → wpList Tryz.prog ops Q rest (a.put (some s) (.slice (some ⟨b, 0, none⟩) n c)) w') : wpList Tryz.prog ops Q (o :: rest) a w := by
  refine wpList_plain hg fun _ hK => ?_
  unfold Oper.wp execOp
  simp only [ho, hm, Sem.run_bind, Sem.run_pure, Result.andThen_ok]
  refine hK _ _ ?_
  rw [hd]
  exact h _ _ (F.alloc rfl cs t) ((Below.refl _ _).alloc (Nat.le_refl _) _)
theorem s_app (F : BK w0 w bs) (hg : o.guard = none) {s x : Operand} (ho : o.op = .call { callee := .builtin .append, args := #[s, x], argTypes := #[96, 96] }) (i : Nat) {g : Nat} {cur : Array Value} {t : TypeId} (hi : bs[i]? = some (g, cur, t))
    {n cap B m c : Nat} {ad : Addr} {news : List UInt8} (hs : a.eval s = .slice (some ⟨g, 0, none⟩) n cap) (hx : a.eval x = .slice (some ad) m c) (hr : Reads w B 1 (some ad) m (bvs news)) (hroom : n + m ≤ cap) (hcap : cap ≤ cur.size)
    (h : ∀ w', BK w0 w' (bs.set i (g, overL cur n news, t)) → wpList Tryz.prog ops Q rest (a.put o.dst (.slice (some ⟨g, 0, none⟩) (n + m) cap)) w') : wpList Tryz.prog ops Q (o :: rest) a w :=
  appIn hg ho hs hx (F.mem hi) hr hroom hcap (h _ (F.frm i hi (Frm.setRow _ _ _).1 (heap_setRow (F.mem hi))))
end
set_option maxRecDepth 100000 in
theorem make256 (w : World) : (Instr.makeSlice 96 (.int .i64 0) (.int .i64 256)).run Tryz.prog w = .ok (.slice (some ⟨w.heap.size, 0, none⟩) 0 256) (w.alloc (.cells (bvs (List.replicate 256 0)).toArray 5)) := by
  obtain ⟨i0, hi0, hz0, hz1, hz2⟩ := info_parts u8info
  have h1 := run_makeSlice (P := Tryz.prog) (w := w) 96 _ i0 _ Tryz.underlying96 hi0 hz0 .i64 .i64 (0 : Int) (256 : Int) (by omega) (by omega) (by rw [hz1]; simp) (by rw [hz2]; omega) (by omega)
  rw [hz1] at h1
  have e : madeCells (Value.int .u8 0).cells (256 * 1) = (bvs (List.replicate 256 0)).toArray := by
    apply Array.ext_getElem?
    intro i
    rw [← Array.getElem?_toList, show (Value.int .u8 0).cells = #[.int .u8 0] from rfl, toList_madeCells_one]
    simp [bvs, bv]
  simpa [e] using h1
theorem run_index8z (R : R8) (k : Nat) (x : Int) (h : R.l[k]? = some x) (w : World) :
    (Instr.index 332 (.agg (w64s R.l).toArray) (.int .i64 (k : Int))).run Tryz.prog w = .ok (.int .u64 x) w := by
  match k, h with
  | 0, h => simp [R8.l] at h; subst h; change _ = _; kernel_rfl
  | 1, h => simp [R8.l] at h; subst h; change _ = _; kernel_rfl
  | 2, h => simp [R8.l] at h; subst h; change _ = _; kernel_rfl
  | 3, h => simp [R8.l] at h; subst h; change _ = _; kernel_rfl
  | 4, h => simp [R8.l] at h; subst h; change _ = _; kernel_rfl
  | 5, h => simp [R8.l] at h; subst h; change _ = _; kernel_rfl
  | 6, h => simp [R8.l] at h; subst h; change _ = _; kernel_rfl
  | 7, h => simp [R8.l] at h; subst h; change _ = _; kernel_rfl
  | n + 8, h => simp [R8.l] at h
theorem slH64 (g o h : Nat) (hh : h ≤ 64) (w : World) : (Instr.sliceAt 32 (.pointer (some ⟨g, o, none⟩)) none (some (.int .i64 (h : Int))) none).run Tryz.prog w = .ok (.slice (some ⟨g, o, none⟩) h 64) w := by
  have e64 : Tryz.prog.arrayLen 32 = 64 := by kernel_rfl
  have h1 := run_sliceAt_array_h (P := Tryz.prog) w 32 ⟨g, o, none⟩ (by kernel_rfl) .i64 (h : Int) (by omega) (by rw [e64]; omega)
  have hs : (sizeOf (Tryz.prog.elem 32)).run Tryz.prog w = .ok 1 w := by kernel_rfl
  rw [h1, hs, Result.andThen_ok, e64]
  unfold slicedAt
  rw [if_neg (by omega), add_none, Nat.zero_mul, Nat.add_zero, Int.toNat_natCast]
  rfl
theorem KQ.frm {w w' : World} {K : List Int} {ps : List Nat} (h : KQ w K) (hf : Frm ps w w') (hp : 3 ∉ ps) : KQ w' K :=
  ⟨Nat.lt_of_lt_of_le h.1 hf.size, h.2.1, fun j hj => by rw [← h.2.2 j hj]; unfold World.cell?; simp only [hf.block _ h.1 hp]⟩
theorem stq_of {w : World} {g : Nat} {t : TypeId} {R : R8} (h : w.heap[g]? = some (.cells (w64s R.l).toArray t (0, 0))) : STQ w g t (w64s R.l).toArray R :=
  ⟨h, by simp [w64s, l_len], fun j v hj => by simp [w64s, hj]⟩
theorem over_st (X Y : R8) : over (w64s X.l).toArray (w64s Y.l) = (w64s Y.l).toArray := by
  unfold over
  rw [List.toList_toArray, List.drop_of_length_le (by simp [w64s, l_len]), List.append_nil]
end Go.Proofs.YtbcpmnnlhdgbhaaGreatDoor

namespace Go.Proofs.YtbcpmnnlhdgbhaaGreatDoor
/-- Five limbs. -/
structure E5 where
  a : Nat
  b : Nat
  c : Nat
  d : Nat
  e : Nat
deriving DecidableEq
def E5.ok (x : E5) : Prop := x.a < 18446744073709551616 ∧ x.b < 18446744073709551616 ∧ x.c < 18446744073709551616 ∧ x.d < 18446744073709551616 ∧ x.e < 18446744073709551616
def carrE (x : E5) : E5 := ⟨(x.a % 2251799813685248 + 19 * (x.e / 2251799813685248)) % 18446744073709551616, (x.b % 2251799813685248 + x.a / 2251799813685248) % 18446744073709551616, (x.c % 2251799813685248 + x.b / 2251799813685248) % 18446744073709551616, (x.d % 2251799813685248 + x.c / 2251799813685248) % 18446744073709551616, (x.e % 2251799813685248 + x.d / 2251799813685248) % 18446744073709551616⟩
def plusE (x y : E5) : E5 := carrE ⟨(x.a + y.a) % 18446744073709551616, (x.b + y.b) % 18446744073709551616, (x.c + y.c) % 18446744073709551616, (x.d + y.d) % 18446744073709551616, (x.e + y.e) % 18446744073709551616⟩
def subM (u k v : Nat) : Nat := ((u + k) % 18446744073709551616 + 18446744073709551616 - v) % 18446744073709551616
def minusE (x y : E5) : E5 := carrE ⟨subM x.a 4503599627370458 y.a, subM x.b 4503599627370494 y.b, subM x.c 4503599627370494 y.c, subM x.d 4503599627370494 y.d, subM x.e 4503599627370494 y.e⟩
/-- A sum of products, of 128 bits. -/
def addW (w u v : Nat) : Nat := (w + u * v) % 340282366920938463463374607431768211456
def shW (w : Nat) : Nat := w / 2251799813685248 % 18446744073709551616
def n19 (u : Nat) : Nat := 19 * u % 18446744073709551616
def timesE (x y : E5) : E5 :=
  carrE ⟨(addW (addW (addW (addW (addW 0 x.a y.a) x.b (n19 y.e)) x.c (n19 y.d)) x.d (n19 y.c)) x.e (n19 y.b) % 2251799813685248 + 19 * shW (addW (addW (addW (addW (addW 0 x.a y.e) x.b y.d) x.c y.c) x.d y.b) x.e y.a)) % 18446744073709551616,
    (addW (addW (addW (addW (addW 0 x.a y.b) x.b y.a) x.c (n19 y.e)) x.d (n19 y.d)) x.e (n19 y.c) % 2251799813685248 + shW (addW (addW (addW (addW (addW 0 x.a y.a) x.b (n19 y.e)) x.c (n19 y.d)) x.d (n19 y.c)) x.e (n19 y.b))) % 18446744073709551616,
    (addW (addW (addW (addW (addW 0 x.a y.c) x.b y.b) x.c y.a) x.d (n19 y.e)) x.e (n19 y.d) % 2251799813685248 + shW (addW (addW (addW (addW (addW 0 x.a y.b) x.b y.a) x.c (n19 y.e)) x.d (n19 y.d)) x.e (n19 y.c))) % 18446744073709551616,
    (addW (addW (addW (addW (addW 0 x.a y.d) x.b y.c) x.c y.b) x.d y.a) x.e (n19 y.e) % 2251799813685248 + shW (addW (addW (addW (addW (addW 0 x.a y.c) x.b y.b) x.c y.a) x.d (n19 y.e)) x.e (n19 y.d))) % 18446744073709551616,
    (addW (addW (addW (addW (addW 0 x.a y.e) x.b y.d) x.c y.c) x.d y.b) x.e y.a % 2251799813685248 + shW (addW (addW (addW (addW (addW 0 x.a y.d) x.b y.c) x.c y.b) x.d y.a) x.e (n19 y.e))) % 18446744073709551616⟩
def sqE : Nat → E5 → E5
  | 0, x => x
  | n + 1, x => sqE n (timesE x x)
def e9E (x : E5) : E5 := timesE (sqE 2 (sqE 1 x)) x
def e11E (x : E5) : E5 := timesE (e9E x) (sqE 1 x)
def x5E (x : E5) : E5 := timesE (sqE 1 (e11E x)) (e9E x)
def x10E (x : E5) : E5 := timesE (sqE 5 (x5E x)) (x5E x)
def x20E (x : E5) : E5 := timesE (sqE 10 (x10E x)) (x10E x)
def x40E (x : E5) : E5 := timesE (sqE 20 (x20E x)) (x20E x)
def x50E (x : E5) : E5 := timesE (sqE 10 (x40E x)) (x10E x)
def x100E (x : E5) : E5 := timesE (sqE 50 (x50E x)) (x50E x)
def x200E (x : E5) : E5 := timesE (sqE 100 (x100E x)) (x100E x)
def x250E (x : E5) : E5 := timesE (sqE 50 (x200E x)) (x50E x)
def invE (x : E5) : E5 := timesE (sqE 5 (x250E x)) (e11E x)
/-- The number below p, in four words. -/
def leastE (x : E5) : E5 :=
  let q := (x.a + 19) % 18446744073709551616 / 2251799813685248
  let q := (x.b + q) % 18446744073709551616 / 2251799813685248
  let q := (x.c + q) % 18446744073709551616 / 2251799813685248
  let q := (x.d + q) % 18446744073709551616 / 2251799813685248
  let q := (x.e + q) % 18446744073709551616 / 2251799813685248
  let a := (x.a + 19 * q % 18446744073709551616) % 18446744073709551616
  let b := (x.b + a / 2251799813685248) % 18446744073709551616
  let c := (x.c + b / 2251799813685248) % 18446744073709551616
  let d := (x.d + c / 2251799813685248) % 18446744073709551616
  let e := (x.e + d / 2251799813685248) % 18446744073709551616
  ⟨a % 2251799813685248, b % 2251799813685248, c % 2251799813685248, d % 2251799813685248, e % 2251799813685248⟩
def word0 (x : E5) : Nat := x.a ||| (x.b * 2251799813685248 % 18446744073709551616)
def word1 (x : E5) : Nat := (x.b / 8192) ||| (x.c * 274877906944 % 18446744073709551616)
def word2 (x : E5) : Nat := (x.c / 67108864) ||| (x.d * 33554432 % 18446744073709551616)
def word3 (x : E5) : Nat := (x.d / 549755813888) ||| (x.e * 4096 % 18446744073709551616)
/-- The eight bytes of a word, the least first. -/
def le8 (v : Nat) : List UInt8 := (List.range 8).map fun j => UInt8.ofNat (v / 2 ^ (8 * j))
def bytesE (x : E5) : List UInt8 :=
  let y := leastE (carrE (carrE x))
  le8 (word0 y) ++ le8 (word1 y) ++ le8 (word2 y) ++ le8 (word3 y)
def oneE : E5 := ⟨1, 0, 0, 0, 0⟩
def nilE : E5 := ⟨0, 0, 0, 0, 0⟩
structure Pt where
  x : E5
  y : E5
  z : E5
  t : E5
deriving DecidableEq
def twiceE : E5 := ⟨1859910466990425, 932731440258426, 1072319116312658, 1815898335770999, 633789495995903⟩
def originP : Pt := ⟨nilE, oneE, oneE, nilE⟩
def bxE : E5 := ⟨1738742601995546, 1146398526822698, 2070867633025821, 562264141797630, 587772402128613⟩
def byE : E5 := ⟨1801439850948184, 1351079888211148, 450359962737049, 900719925474099, 1801439850948198⟩
def baseP : Pt := ⟨bxE, byE, oneE, timesE bxE byE⟩
/-- The four products that a sum ends in. -/
def outP (e f g h : E5) : Pt := ⟨timesE e f, timesE g h, timesE f g, timesE e h⟩
def plusP (p q : Pt) : Pt :=
  let a := timesE (minusE p.y p.x) (minusE q.y q.x)
  let b := timesE (plusE p.y p.x) (plusE q.y q.x)
  let c := timesE (timesE p.t twiceE) q.t
  let d := timesE p.z q.z
  let d := plusE d d
  outP (minusE b a) (minusE d c) (plusE d c) (plusE b a)
def doubleP (p : Pt) : Pt :=
  let a := timesE p.x p.x
  let b := timesE p.y p.y
  let c := timesE p.z p.z
  let c := plusE c c
  let s := plusE p.x p.y
  let h := plusE a b
  let e := minusE h (timesE s s)
  let g := minusE a b
  outP e (plusE c g) g h
def tabP (p : Pt) : Nat → Pt
  | 0 => originP
  | 1 => p
  | n + 2 => plusP (tabP p (n + 1)) p
def stepP (p q : Pt) (d : Nat) : Pt := plusP (doubleP (doubleP (doubleP (doubleP q)))) (tabP p d)
/-- The digits of a number: four bits each, the greatest first. -/
def digits : List UInt8 → List Nat
  | [] => []
  | b :: l => digits l ++ [b.toNat / 16, b.toNat % 16]
def timesP (p : Pt) (n : List UInt8) : Pt := (digits n).foldl (stepP p) originP
def bytesP (p : Pt) : List UInt8 :=
  let z := invE p.z
  let out := bytesE (timesE p.y z)
  if (bytesE (timesE p.x z)).getD 0 0 % 2 = 1 then out.set 31 (out.getD 31 0 ||| 128) else out
def baseF (n : List UInt8) : List UInt8 := bytesP (timesP baseP n)
end Go.Proofs.YtbcpmnnlhdgbhaaGreatDoor

namespace Go.Proofs.YtbcpmnnlhdgbhaaGreatDoor
end Go.Proofs.YtbcpmnnlhdgbhaaGreatDoor

namespace Go.Proofs.YtbcpmnnlhdgbhaaGreatDoor
open Go.RowKit Go.Lib
def E5.cs (x : E5) : Array Value := #[.int .u64 (x.a : Int), .int .u64 (x.b : Int), .int .u64 (x.c : Int), .int .u64 (x.d : Int), .int .u64 (x.e : Int)]
/-- What a function of the field answers. -/
def ERet (y : E5) (w : World) (e : Ending) (w' : World) : Prop := e = .returned (.agg y.cs) ∧ Below w.heap.size w w'
theorem BK.e5 {w0 w : World} {bs : List (Nat × Array Value × TypeId)} (h : BK w0 w bs) (i : Nat) {b : Nat} {x : E5} {t : TypeId} (hi : bs[i]? = some (b, x.cs, t)) : w.cell? ⟨b, 0, none⟩ = some (.int .u64 x.a) ∧ w.cell? ⟨b, 1, none⟩ = some (.int .u64 x.b) ∧ w.cell? ⟨b, 2, none⟩ = some (.int .u64 x.c) ∧ w.cell? ⟨b, 3, none⟩ = some (.int .u64 x.d) ∧ w.cell? ⟨b, 4, none⟩ = some (.int .u64 x.e) :=
  ⟨h.cell i hi 0, h.cell i hi 1, h.cell i hi 2, h.cell i hi 3, h.cell i hi 4⟩
theorem ret5 {w : World} {b : Nat} {x : E5} {T : TypeId} (h : w.heap[b]? = some (.cells x.cs T (0, 0))) : (loadVar 260 ⟨b, 0, none⟩).run Tryz.prog w = .ok (.agg x.cs) w :=
  run_loadVar_mid (P := Tryz.prog) w b 0 260 x.cs.toList _ (range_row h) Tryz.underlying260 rfl (by kernel_rfl)
theorem zeroE : ∀ w, (zeroValue 260).run Tryz.prog w = .ok (.agg nilE.cs) w := fun w => by kernel_rfl
theorem zeroA5 : ∀ w, (zeroValue 259).run Tryz.prog w = .ok (.agg nilE.cs) w := fun w => by kernel_rfl
theorem and51 {c : Nat} (hc : c < 18446744073709551616) : bits BinOp.and IntKind.u64 (c : Int) 2251799813685247 = ((c % 2251799813685248 : Nat) : Int) := by
  have h := bits_and_u64_nat c 2251799813685247 hc (by omega)
  have e : c &&& 2251799813685247 = c % 2251799813685248 := Nat.and_two_pow_sub_one_eq_mod c 51
  rw [e] at h
  exact h
theorem wrapU (n : Nat) : IntKind.u64.wrap (n : Int) = ((n % 18446744073709551616 : Nat) : Int) := by rw [IntKind.wrap_u64]; omega
def E5.high (x : E5) : E5 := ⟨x.a / 2251799813685248, x.b / 2251799813685248, x.c / 2251799813685248, x.d / 2251799813685248, x.e / 2251799813685248⟩
theorem E5.size (x : E5) : x.cs.size = 5 := rfl
theorem E5.cells (x : E5) : (x.cs.all fun v => v.oneCell') = true := by kernel_rfl
theorem high_eq (x : E5) : Value.agg (((((nilE.cs.setIfInBounds 0 (.int .u64 ((x.a : Int) / 2251799813685248))).setIfInBounds 1 (.int .u64 ((x.b : Int) / 2251799813685248))).setIfInBounds 2 (.int .u64 ((x.c : Int) / 2251799813685248))).setIfInBounds 3 (.int .u64 ((x.d : Int) / 2251799813685248))).setIfInBounds 4 (.int .u64 ((x.e : Int) / 2251799813685248))) = .agg x.high.cs := by
  rfl
theorem carr_ok (x : E5) : (carrE x).ok := ⟨Nat.mod_lt _ (by decide), Nat.mod_lt _ (by decide), Nat.mod_lt _ (by decide), Nat.mod_lt _ (by decide), Nat.mod_lt _ (by decide)⟩
theorem wadd (m k : Nat) : IntKind.u64.wrap ((m : Int) + (k : Int)) = (((m + k) % 18446744073709551616 : Nat) : Int) := by rw [IntKind.wrap_u64]; omega
theorem wmul (k : Nat) : IntKind.u64.wrap (19 * (k : Int)) = ((19 * k % 18446744073709551616 : Nat) : Int) := by rw [IntKind.wrap_u64]; omega
theorem carr_eq {x : E5} (hx : x.ok) : Value.agg (((((nilE.cs.setIfInBounds 0 (.int .u64 (IntKind.u64.wrap (bits BinOp.and IntKind.u64 (x.a : Int) 2251799813685247 + IntKind.u64.wrap (19 * ((x.e / 2251799813685248 : Nat) : Int)))))).setIfInBounds 1 (.int .u64 (IntKind.u64.wrap (bits BinOp.and IntKind.u64 (x.b : Int) 2251799813685247 + ((x.a / 2251799813685248 : Nat) : Int))))).setIfInBounds 2 (.int .u64 (IntKind.u64.wrap (bits BinOp.and IntKind.u64 (x.c : Int) 2251799813685247 + ((x.b / 2251799813685248 : Nat) : Int))))).setIfInBounds 3 (.int .u64 (IntKind.u64.wrap (bits BinOp.and IntKind.u64 (x.d : Int) 2251799813685247 + ((x.c / 2251799813685248 : Nat) : Int))))).setIfInBounds 4 (.int .u64 (IntKind.u64.wrap (bits BinOp.and IntKind.u64 (x.e : Int) 2251799813685247 + ((x.d / 2251799813685248 : Nat) : Int))))) = .agg (carrE x).cs := by
  have h2 := hx.2.2.2.2
  rw [and51 hx.1, and51 hx.2.1, and51 hx.2.2.1, and51 hx.2.2.2.1, and51 hx.2.2.2.2, wmul, wadd, wadd, wadd, wadd, wadd, Nat.mod_eq_of_lt (a := 19 * (x.e / 2251799813685248)) (by omega)]
  rfl
set_option maxRecDepth 100000 in
set_option maxHeartbeats 400000 in
theorem carried_any (x : E5) (hx : x.ok) (w : World) : Calls Tryz.prog 236 #[.agg x.cs] w (ERet (carrE x) w) := by
  have hz := zeroE
  have hz2 := zeroA5
  have Hx := Lib.hid hx
  have F0 := Lib.hid (BK.start w)
  clear hx
  go_enter Tryz.func236, Tryz.ntmps236
  go_wp2_with (first
    | (have hx_ := F0; refine s_box hx_.out rfl rfl rfl rfl ?_; clear F0 hx_; intro w1 b1 h1 _; have F1 := Lib.hid h1; clear h1)
    | (have hx_ := F1; refine s_alloc hx_.out rfl rfl zeroE rfl ?_; clear F1 hx_; intro w2 b2 h1 _; obtain ⟨e0, e1, e2, e3, e4⟩ := h1.e5 1 rfl; have F2 := Lib.hid h1; clear h1)
    | (have hx_ := F2; refine s_alloc hx_.out rfl rfl zeroA5 rfl ?_; clear F2 hx_ e0 e1 e2 e3 e4; intro w3 b3 h1 _; have F3 := Lib.hid h1; clear h1)
    | (have hx_ := F3; refine s_store hx_.out rfl rfl 0 rfl rfl x.high.cs (high_eq x) rfl (by kernel_rfl) (E5.cells _) ?_; clear F3 hx_; intro w4 h1; obtain ⟨e0, e1, e2, e3, e4⟩ := h1.e5 2 rfl; obtain ⟨g0, g1, g2, g3, g4⟩ := h1.e5 0 rfl; have F4 := Lib.hid h1; clear h1)
    | (have hx_ := F4; refine s_store hx_.out rfl rfl 1 rfl rfl (carrE x).cs (carr_eq Hx.out) rfl (by kernel_rfl) (E5.cells _) ?_; clear F4 hx_ e0 e1 e2 e3 e4 g0 g1 g2 g3 g4; intro w5 h1; have F5 := Lib.hid h1; clear h1))
  exact bodyPost_ret (v := .agg (carrE x).cs) (by simp [results, Tryz.results236, asAddr]; exact ret5 (F5.out.mem (i := 1) rfl)) rfl ⟨rfl, F5.out.below⟩
end Go.Proofs.YtbcpmnnlhdgbhaaGreatDoor

namespace Go.Proofs.YtbcpmnnlhdgbhaaGreatDoor
open Go.RowKit Go.Lib
set_option maxRecDepth 100000 in
set_option maxHeartbeats 4000000 in
theorem Mul64_any (x y : Nat) (hx : x < 18446744073709551616) (hy : y < 18446744073709551616) (w : World) :
    Calls Tryz.prog 180 #[.int .u64 (x : Int), .int .u64 (y : Int)] w fun e w' => e = .returned (.tuple #[.int .u64 ((x * y / 18446744073709551616 : Nat) : Int), .int .u64 ((x * y % 18446744073709551616 : Nat) : Int)]) ∧ w' = w := by
  obtain ⟨bd, bt, bw, hhi⟩ := Lib.mul64_hi x y hx hy
  have ba := Lib.half_mul_le (a := x / 4294967296) (b := y / 4294967296) (by omega) (by omega)
  have bb := Lib.half_mul_le (a := x / 4294967296) (b := y % 4294967296) (by omega) (by omega)
  have bc := Lib.half_mul_le (a := x % 4294967296) (b := y / 4294967296) (by omega) (by omega)
  have ba' : x / 4294967296 * (y / 4294967296) < 18446744073709551616 := by omega
  have bb' : x / 4294967296 * (y % 4294967296) < 18446744073709551616 := by omega
  have bc' : x % 4294967296 * (y / 4294967296) < 18446744073709551616 := by omega
  have bh1 : x / 4294967296 * (y / 4294967296) + (x / 4294967296 * (y % 4294967296) + x % 4294967296 * (y % 4294967296) / 4294967296) / 4294967296 < 18446744073709551616 := by omega
  have bh : x / 4294967296 * (y / 4294967296) + (x / 4294967296 * (y % 4294967296) + x % 4294967296 * (y % 4294967296) / 4294967296) / 4294967296 + ((x / 4294967296 * (y % 4294967296) + x % 4294967296 * (y % 4294967296) / 4294967296) % 4294967296 + x % 4294967296 * (y / 4294967296)) / 4294967296 < 18446744073709551616 := by
    rw [hhi]
    have h1 : x * y ≤ 18446744073709551615 * 18446744073709551615 := Nat.mul_le_mul (by omega) (by omega)
    omega
  go_enter Tryz.func180, Tryz.ntmps180
  go_wp2
  simp only [Mul64.maskN x hx, Mul64.maskN y hy, Mul64.divN, Mul64.mulN, Mul64.addN, Mul64.wrapN _ bd, Mul64.wrapN _ bb', Mul64.wrapN _ bt, Mul64.maskN _ bt, Mul64.wrapN _ bc', Mul64.wrapN _ bw, Mul64.wrapN _ ba', Mul64.wrapN _ bh1, Mul64.wrapN _ bh, Mul64.wrapM (x * y)]
  rw [hhi]
  go_ret2
  exact ⟨rfl, rfl⟩

end Go.Proofs.YtbcpmnnlhdgbhaaGreatDoor

namespace Go.Proofs.YtbcpmnnlhdgbhaaGreatDoor
open Go.RowKit
theorem run_Add64 (x y c : Nat) (hc : c ≤ 1) (w : World) : (callFunc 181 #[.int .u64 x, .int .u64 y, .int .u64 c]).run Tryz.prog w =
      .ok (.value (.tuple #[.int .u64 (((x + y + c) % 18446744073709551616 : Nat) : Int), .int .u64 (((x + y + c) / 18446744073709551616 : Nat) : Int)])) w := by
  rw [run_callFunc_extern Tryz.func181 (by kernel_rfl) (by kernel_rfl) (by kernel_rfl) (e := add64Entry) (by kernel_rfl), run_add64 x y c (by omega) (by omega) (by omega) (by omega)]
  simp only [Result.andThen]
  congr 5 <;> omega
theorem run_Sub64 (x y b : Nat) (hb : b ≤ 1) (w : World) : (callFunc 257 #[.int .u64 x, .int .u64 y, .int .u64 b]).run Tryz.prog w =
      .ok (.value (.tuple #[.int .u64 (((x + 18446744073709551616 - y - b) % 18446744073709551616 : Nat) : Int), .int .u64 ((if x < y + b then 1 else 0 : Nat) : Int)])) w := by
  rw [run_callFunc_extern Tryz.func257 (by kernel_rfl) (by kernel_rfl) (by kernel_rfl) (e := sub64Entry) (by kernel_rfl), run_sub64 x y b hb]
  rfl
/-- Four words, the least first. -/
structure W4 where
  a : Nat
  b : Nat
  c : Nat
  d : Nat
def W4.ok (x : W4) : Prop := x.a < 18446744073709551616 ∧ x.b < 18446744073709551616 ∧ x.c < 18446744073709551616 ∧ x.d < 18446744073709551616
def W4.cs (x : W4) : Array Value := #[.int .u64 x.a, .int .u64 x.b, .int .u64 x.c, .int .u64 x.d]
def W4.val (x : W4) : Nat := x.a + 18446744073709551616 * x.b + 340282366920938463463374607431768211456 * x.c + 6277101735386680763835789423207666416102355444464034512896 * x.d
/-- The first k words of the sum are done. -/
def AddInv (x y d : W4) (c : Nat) : Nat → Prop
  | 0 => d = x ∧ c = 0
  | 1 => x.a + y.a = d.a + c * 18446744073709551616 ∧ d.b = x.b ∧ d.c = x.c ∧ d.d = x.d
  | 2 => x.a + y.a + 18446744073709551616 * (x.b + y.b) = d.a + 18446744073709551616 * d.b + c * 340282366920938463463374607431768211456 ∧ d.c = x.c ∧ d.d = x.d
  | 3 => x.a + y.a + 18446744073709551616 * (x.b + y.b) + 340282366920938463463374607431768211456 * (x.c + y.c) = d.a + 18446744073709551616 * d.b + 340282366920938463463374607431768211456 * d.c + c * 6277101735386680763835789423207666416102355444464034512896 ∧ d.d = x.d
  | _ => x.val + y.val = d.val + c * 115792089237316195423570985008687907853269984665640564039457584007913129639936
theorem AddInv.step0 {x y d : W4} {c : Nat} (h : AddInv x y d c 0) : AddInv x y { d with a := (d.a + y.a + c) % 18446744073709551616 } ((d.a + y.a + c) / 18446744073709551616) 1 := by
  obtain ⟨rfl, rfl⟩ := h
  refine ⟨?_, rfl, rfl, rfl⟩
  show d.a + y.a = (d.a + y.a + 0) % 18446744073709551616 + (d.a + y.a + 0) / 18446744073709551616 * 18446744073709551616
  omega
theorem AddInv.step1 {x y d : W4} {c : Nat} (h : AddInv x y d c 1) : AddInv x y { d with b := (d.b + y.b + c) % 18446744073709551616 } ((d.b + y.b + c) / 18446744073709551616) 2 := by
  obtain ⟨h, h1, h2, h3⟩ := h
  refine ⟨?_, h2, h3⟩
  show _ = d.a + 18446744073709551616 * ((d.b + y.b + c) % 18446744073709551616) + (d.b + y.b + c) / 18446744073709551616 * 340282366920938463463374607431768211456
  rw [h1]
  omega
theorem AddInv.step2 {x y d : W4} {c : Nat} (h : AddInv x y d c 2) : AddInv x y { d with c := (d.c + y.c + c) % 18446744073709551616 } ((d.c + y.c + c) / 18446744073709551616) 3 := by
  obtain ⟨h, h2, h3⟩ := h
  refine ⟨?_, h3⟩
  show _ = d.a + 18446744073709551616 * d.b + 340282366920938463463374607431768211456 * ((d.c + y.c + c) % 18446744073709551616) + (d.c + y.c + c) / 18446744073709551616 * 6277101735386680763835789423207666416102355444464034512896
  rw [h2]
  omega
theorem AddInv.step3 {x y d : W4} {c : Nat} (h : AddInv x y d c 3) : AddInv x y { d with d := (d.d + y.d + c) % 18446744073709551616 } ((d.d + y.d + c) / 18446744073709551616) 4 := by
  obtain ⟨h, h3⟩ := h
  show x.val + y.val = d.a + 18446744073709551616 * d.b + 340282366920938463463374607431768211456 * d.c + 6277101735386680763835789423207666416102355444464034512896 * ((d.d + y.d + c) % 18446744073709551616) + (d.d + y.d + c) / 18446744073709551616 * 115792089237316195423570985008687907853269984665640564039457584007913129639936
  unfold W4.val
  rw [h3]
  omega
def AddPost (x y : W4) (w : World) (e : Ending) (w' : World) : Prop := ∃ (d : W4) (c : Nat), e = .returned (.agg d.cs) ∧ d.ok ∧ c ≤ 1 ∧ x.val + y.val = d.val + c * 115792089237316195423570985008687907853269984665640564039457584007913129639936 ∧ Below w.heap.size w w'
theorem cell4 {w : World} {b : Nat} {d : W4} {T : TypeId} (h : w.heap[b]? = some (.cells d.cs T (0, 0))) : w.cell? ⟨b, 0, none⟩ = some (.int .u64 d.a) ∧ w.cell? ⟨b, 1, none⟩ = some (.int .u64 d.b) ∧ w.cell? ⟨b, 2, none⟩ = some (.int .u64 d.c) ∧ w.cell? ⟨b, 3, none⟩ = some (.int .u64 d.d) := by
  refine ⟨?_, ?_, ?_, ?_⟩ <;> (rw [cell_of_row _ b _ _ _ _ h]; rfl)
/-- The blocks of add and sub: the sum so far, the other number, the answer's place. -/
def Three (w wr : World) (d y z : W4) : Prop := Below w.heap.size w wr ∧ wr.heap[w.heap.size]? = some (.cells d.cs 294 (0, 0)) ∧ wr.heap[w.heap.size + 1]? = some (.cells y.cs 294 (0, 0)) ∧ wr.heap[w.heap.size + 1 + 1]? = some (.cells z.cs 294 (0, 0))
theorem Three.below {w wr w' : World} {d y z : W4} (h : Three w wr d y z) (hb : Below wr.heap.size wr w') : Three w w' d y z := by
  obtain ⟨h0, h1, h2, h3⟩ := h
  have lt : ∀ {b o}, wr.heap[b]? = some o → b < wr.heap.size := fun {b o} h => by
    rcases Nat.lt_or_ge b wr.heap.size with h' | h'
    · exact h'
    · rw [Array.getElem?_eq_none h'] at h; cases h
  exact ⟨h0.trans (hb.mono h0.size), (hb.block _ (lt h1)).trans h1, (hb.block _ (lt h2)).trans h2, (hb.block _ (lt h3)).trans h3⟩
theorem Three.set {w wr : World} {d y z d' : W4} {i : Nat} {v : Value} (h : Three w wr d y z) (hd : d.cs.setIfInBounds i v = d'.cs) : Three w (wr.setCell ⟨w.heap.size, i, none⟩ v) d' y z := by
  obtain ⟨h0, h1, h2, h3⟩ := h
  refine ⟨h0.setCell (p := ⟨w.heap.size, i, none⟩) (Nat.le_refl _) v, ?_, ?_, ?_⟩
  · rw [← hd]; exact heap_setCell_same wr w.heap.size i _ _ v h1
  · exact (Below.heap_setCell _ _ _ _ (by simp)).trans h2
  · exact (Below.heap_setCell _ _ _ _ (by simp; omega)).trans h3
theorem ret4 {wr : World} {b : Nat} {d z : W4} (h : wr.heap[b]? = some (.cells z.cs 294 (0, 0))) :
    (loadVar 294 ⟨b, 0, none⟩).run Tryz.prog ((((wr.setCell ⟨b, 0, none⟩ (.int .u64 d.a)).setCell ⟨b, 1, none⟩ (.int .u64 d.b)).setCell ⟨b, 2, none⟩ (.int .u64 d.c)).setCell ⟨b, 3, none⟩ (.int .u64 d.d)) =
      .ok (.agg d.cs) ((((wr.setCell ⟨b, 0, none⟩ (.int .u64 d.a)).setCell ⟨b, 1, none⟩ (.int .u64 d.b)).setCell ⟨b, 2, none⟩ (.int .u64 d.c)).setCell ⟨b, 3, none⟩ (.int .u64 d.d)) := by
  have hth : wr.there b 0 4 := fun j hj => by
    refine ⟨?_, by simp [World.frozen?, h]⟩
    rw [cell_of_row wr b (0 + j) z.cs _ (0, 0) h]
    obtain rfl | rfl | rfl | rfl : j = 0 ∨ j = 1 ∨ j = 2 ∨ j = 3 := by omega
    all_goals rfl
  have key : ∀ l : List Value, l.length = 4 → (loadVar 294 ⟨b, 0, none⟩).run Tryz.prog (wr.setCells b 0 l) = .ok (.agg l.toArray) (wr.setCells b 0 l) := fun l hl =>
    run_loadVar_mid (P := Tryz.prog) (wr.setCells b 0 l) b 0 294 l _ (World.rangeAt_setCells_same _ _ _ _ (by rw [hl]; exact hth)) Tryz.underlying294 rfl (by rw [hl]; kernel_rfl)
  have h2 := key [.int .u64 d.a, .int .u64 d.b, .int .u64 d.c, .int .u64 d.d] rfl
  simp only [World.setCells, Nat.zero_add, Nat.reduceAdd] at h2
  exact h2
end Go.Proofs.YtbcpmnnlhdgbhaaGreatDoor
