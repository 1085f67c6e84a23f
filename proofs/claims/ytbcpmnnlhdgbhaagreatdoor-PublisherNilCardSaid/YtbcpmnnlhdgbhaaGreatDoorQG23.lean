/- The texts Rg2 H0 HA1 of this work, merged by wip/merge.py. No conditions. -/
import Derived.Test.YtbcpmnnlhdgbhaaGreatDoorQG22
import Derived.Test.YtbcpmnnlhdgbhaaGreatDoorQG09
import Derived.Test.YtbcpmnnlhdgbhaaGreatDoorQG04
import Derived.Test.YtbcpmnnlhdgbhaaGreatDoorQG01
import Derived.Great.Ranges
import Derived.Lib.ConvBytes
import Derived.Lib.AppendStr
namespace Go.Proofs.YtbcpmnnlhdgbhaaGreatDoor
open Go.RowKit
def pureOp (o : Oper) : Bool := o.guard.isNone && match o.op with
  | .move _ | .assign _ | .pick _ _ _ | .build _ _ | .load _ _ | .binOp _ _ _ _ _ | .unOp _ _ _ | .convert _ _ _ | .slice _ _ _ _ _ | .fieldAddr _ _ _ | .field _ _ _ | .indexAddr _ _ _ | .index _ _ _ | .lookup _ _ _ _ | .extract _ _ | .typeAssert _ _ _ _ | .sliceToArrayPointer _ _ | .makeInterface _ _ | .makeFunc _ _ _ => true
  | _ => false
theorem value_only {P : Program} {s : Sem Value} {w w' : World} {f : FuncId} {args : Array Value} : (do pure (Next.value (← s)) : Sem Next).run P w ≠ .ok (.enter f args) w' := fun h => by
  rw [Sem.run_bind] at h
  generalize s.run P w = x at h
  cases x with
  | ok v w2 => simp only [Result.andThen_ok, Sem.run_pure] at h; cases h
  | halt x w2 => cases h
theorem skip_never {P : Program} {s : Sem Value} {w w' : World} : (do pure (Next.value (← s)) : Sem Next).run P w ≠ .ok .skip w' := fun h => by
  rw [Sem.run_bind] at h
  generalize s.run P w = x at h
  cases x with
  | ok v w2 => simp only [Result.andThen_ok, Sem.run_pure] at h; cases h
  | halt x w2 => cases h
theorem pure_only {P : Program} {o : Oper} (ho : pureOp o = true) (ρ : Operand → Value) (w w' : World) : (∀ f args, (execOp ρ o).run P w ≠ .ok (.enter f args) w') ∧ (execOp ρ o).run P w ≠ .ok .skip w' := by
  unfold pureOp at ho
  rw [Bool.and_eq_true] at ho
  have h2 := ho.2
  unfold execOp
  split at h2
  case h_20 => cases h2
  case h_1 x hx => rw [hx]; exact ⟨fun _ _ h => (by simp only [Sem.run_pure] at h; cases h), fun h => (by simp only [Sem.run_pure] at h; cases h)⟩
  case h_2 x hx => rw [hx]; exact ⟨fun _ _ h => (by simp only [Sem.run_pure] at h; cases h), fun h => (by simp only [Sem.run_pure] at h; cases h)⟩
  case h_3 c x y hx =>
    rw [hx]
    refine ⟨fun f args h => ?_, fun h => ?_⟩ <;>
    · rw [Sem.run_bind] at h
      generalize (asBool (ρ c)).run P w = z at h
      cases z with
      | ok b w2 => simp only [Result.andThen_ok, Sem.run_pure] at h; cases h
      | halt x w2 => cases h
  all_goals (rename_i hx; rw [hx]; exact ⟨fun _ _ => value_only, skip_never⟩)
structure OneOf (N : World → Prop) where
  val : World
  ok : N val
section
variable {P : Program} {l : List Oper} {w0 : World} {K : List (Nat × (World → Prop)) → List (Option Nat) → Act → Prop} {r : List (Oper × Option Tell)} {k : Nat} {fs : List (Nat × (World → Prop))} {bs : List (Option Nat)} {a : Act} {o : Oper}
/-- An operation that reckons or looks, by the kit's own quiet step. -/
theorem rg_e (hp : pureOp o = true) (h : ∀ N : World → Prop, Nonempty (OneOf N) → wpQuiet P l.toArray (fun w' => ∃ n : OneOf N, w' = n.val) (fun a' => rgWalk P l w0 K r (k + 1) fs bs a') [o] a) : rgWalk P l w0 K ((o, none) :: r) k fs bs a := by
  have h := h (fun w => Below w0.heap.size w0 w) ⟨⟨w0, Below.refl _ _⟩⟩
  have hg : o.guard = none := by
    unfold pureOp at hp
    rw [Bool.and_eq_true] at hp
    simpa using hp.1
  unfold wpQuiet at h
  rw [if_pos (by unfold Region.wanted; rw [hg])] at h
  obtain ⟨v, h1, h2⟩ := h
  refine ⟨v, fun w hb _ => ?_, h2⟩
  have h3 := h1 w ⟨⟨w, hb⟩, rfl⟩
  unfold Oper.quietAt at h3
  have h4 := pure_only (P := P) hp a.eval w
  generalize (execOp a.eval o).run P w = x at h3 h4
  cases x with
  | halt x w' => exact h3.elim
  | ok n w' =>
    cases n <;> simp only [Oper.quietUpon] at h3
    case value u => obtain ⟨e1, e2⟩ := h3; rw [e1, e2]
    case skip => exact ((h4 w').2 rfl).elim
    case enter f args => exact ((h4 w').1 f args rfl).elim
theorem rg_v {v : Value} (h : ∀ w, (execOp a.eval o).run P w = .ok (.value v) w) (hK : rgWalk P l w0 K r (k + 1) fs bs (a.put o.dst v)) : rgWalk P l w0 K ((o, none) :: r) k fs bs a := ⟨v, fun w _ _ => h w, hK⟩
theorem told_at {w : World} (ht : told l k fs w) (i : Nat) {j : Nat} {F : World → Prop} (hi : fs[i]? = some (j, F)) (hd : depB l k j = true) : F w := ht _ (List.mem_of_getElem? hi) hd
theorem rg_load (ty : TypeId) (x : Operand) (ho : o.op = .load ty x) (b off : Nat) (hx : a.eval x = .pointer (some ⟨b, off, none⟩)) (cs : Array Value) (hc : ∀ w, Below w0.heap.size w0 w → told l k fs w → w.rangeAt b off cs.toList) {d : TypeDesc}
    (hu : P.underlying ty = some d) (hrow : d.isRow = true) (hi : (P.info? ty).map (·.size) = some cs.size) (hK : rgWalk P l w0 K r (k + 1) fs bs (a.put o.dst (.agg cs))) : rgWalk P l w0 K ((o, none) :: r) k fs bs a := by
  refine ⟨.agg cs, fun w hb ht => ?_, hK⟩
  unfold execOp
  simp only [ho, hx, Instr.loadAt, Instr.sureAddr, Sem.run_bind, Sem.run_pure, Result.andThen_ok, run_loadVar_mid w b off ty cs.toList d (hc w hb ht) hu hrow (by rw [Array.length_toList]; exact hi), Array.toArray_toList]
/-- A value that is known. -/
def Tell.is (v : Value) : Tell := ⟨fun u => u = v, fun _ _ _ => True, fun _ => none⟩
theorem Tell.is_good (v : Value) : (Tell.is v).Good := ⟨⟨v, rfl⟩, fun _ _ _ _ _ _ => trivial⟩
/-- A new block of its own. -/
def Tell.block (cs : Array Value) (t : TypeId) : Tell := ⟨fun u => ∃ b, u = .pointer (some ⟨b, 0, none⟩), fun _ u w => ∀ b, u = .pointer (some ⟨b, 0, none⟩) → w.heap[b]? = some (.cells cs t (0, 0)), fun u => match u with | .pointer (some p) => some p.block | _ => none⟩
theorem Tell.block_good (cs : Array Value) (t : TypeId) : (Tell.block cs t).Good := ⟨⟨_, 0, rfl⟩, fun _ _ _ _ h hb b e => heap_below (h b e) hb⟩
/-- A new array of its own, as a slice. -/
def Tell.row (n : Nat) (cs : List Value → Array Value) (t : TypeId) : Tell := ⟨fun u => ∃ b, u = .slice (some ⟨b, 0, none⟩) n n, fun xs u w => ∀ b, u = .slice (some ⟨b, 0, none⟩) n n → w.heap[b]? = some (.cells (cs xs) t (0, 0)), fun u => match u with | .slice (some p) _ _ => some p.block | _ => none⟩
theorem Tell.row_good (n : Nat) (cs : List Value → Array Value) (t : TypeId) : (Tell.row n cs t).Good := ⟨⟨_, 0, rfl⟩, fun _ _ _ _ h hb b e => heap_below (h b e) hb⟩
theorem rg_call (f : FuncId) (xs : List Operand) {ts : Array TypeId} (ho : o.op = .call { callee := .value (.func f), args := xs.toArray, argTypes := ts }) {vs : List Value} (hx : xs.map a.eval = vs)
    (eg : ∀ args w, (callFunc f args).run P w = .ok (.enter f args) w) {v : Value} (hc : ∀ w, Below w0.heap.size w0 w → told l k fs w → Calls P f vs.toArray w (fun e w' => e = .returned v ∧ Below w.heap.size w w'))
    (hK : rgWalk P l w0 K r (k + 1) (fs ++ [(k, fun _ => True)]) (bs ++ [none]) (a.put o.dst v)) : rgWalk P l w0 K ((o, some (Tell.is v)) :: r) k fs bs a := by
  refine ⟨fun w hb ht => ?_, fun u hu => by
    have : u = v := hu
    subst this
    exact hK⟩
  unfold okOp
  have h1 : (execOp a.eval o).run P w = .ok (.enter f vs.toArray) w := by
    unfold execOp
    simp only [ho, resolve, List.map_toArray, hx, Act.eval, Deferred.ofValue, Sem.run_bind, Sem.run_pure, Result.andThen_ok, invoke, Array.append_empty, Array.empty_append, eg]
  rw [h1]
  exact (hc w hb ht).mono fun e w' ⟨he, hb'⟩ => ⟨v, he, rfl, trivial, hb', fun b hb => by cases hb⟩
theorem rg_call_t (T : Tell) (f : FuncId) (xs : List Operand) {ts : Array TypeId} (ho : o.op = .call { callee := .value (.func f), args := xs.toArray, argTypes := ts }) {vs : List Value} (hx : xs.map a.eval = vs)
    (eg : ∀ args w, (callFunc f args).run P w = .ok (.enter f args) w) (hc : ∀ w, Below w0.heap.size w0 w → told l k fs w → Calls P f vs.toArray w (fun e w' => ∃ v, e = .returned v ∧ Telling T (argsOf l.toArray o a) w v w'))
    (hK : ∀ v, T.ok v → rgWalk P l w0 K r (k + 1) (fs ++ [(k, T.holds (argsOf l.toArray o a) v)]) (bs ++ [T.own v]) (a.put o.dst v)) : rgWalk P l w0 K ((o, some T) :: r) k fs bs a := by
  refine ⟨fun w hb ht => ?_, hK⟩
  unfold okOp
  have h1 : (execOp a.eval o).run P w = .ok (.enter f vs.toArray) w := by
    unfold execOp
    simp only [ho, resolve, List.map_toArray, hx, Act.eval, Deferred.ofValue, Sem.run_bind, Sem.run_pure, Result.andThen_ok, invoke, Array.append_empty, Array.empty_append, eg]
  rw [h1]
  exact hc w hb ht
theorem rg_new {ty : TypeId} {cs : Array Value} (hrun : ∀ w, (execOp a.eval o).run P w = .ok (.value (.pointer (some ⟨w.heap.size, 0, none⟩))) (w.alloc (.cells cs ty)))
    (hK : ∀ b, rgWalk P l w0 K r (k + 1) (fs ++ [(k, fun w => w.heap[b]? = some (.cells cs ty (0, 0)))]) (bs ++ [some b]) (a.put o.dst (.pointer (some ⟨b, 0, none⟩)))) : rgWalk P l w0 K ((o, some (Tell.block cs ty)) :: r) k fs bs a := by
  refine ⟨fun w hb ht => ?_, fun v hv => ?_⟩
  · unfold okOp
    rw [hrun w]
    refine ⟨⟨_, rfl⟩, fun b e => ?_, (Below.refl _ _).alloc (Nat.le_refl _) _, fun b e => ?_⟩
    · cases e
      exact heap_alloc_new w _
    · cases e
      exact ⟨Nat.le_refl _, lt_of_some (heap_alloc_new w _)⟩
  · obtain ⟨b, rfl⟩ := hv
    have h1 := hK b
    have e : (fun w : World => w.heap[b]? = some (.cells cs ty (0, 0))) = (Tell.block cs ty).holds (argsOf l.toArray o a) (.pointer (some ⟨b, 0, none⟩)) := by
      funext w
      apply propext
      refine ⟨fun h b' e => ?_, fun h => h b rfl⟩
      cases e
      exact h
    rw [e] at h1
    exact h1
/-- A new array of its own, built of what is told. -/
theorem rg_row {ty : TypeId} {n : Nat} {parts : Array (Nat × Operand)} (ho : o.op = .buildSlice ty n parts) {e : TypeId} (cs : List Value → Array Value) {c : Array Value} (hrun : ∀ w, (Instr.buildSlice ty n (parts.map fun (i, x) => (i, a.eval x))).run P w = .ok (.slice (some ⟨w.heap.size, 0, none⟩) n n) (w.alloc (.cells c e))) (hc : cs (argsOf l.toArray o a) = c)
    (hK : ∀ b, rgWalk P l w0 K r (k + 1) (fs ++ [(k, fun w => w.heap[b]? = some (.cells c e (0, 0)))]) (bs ++ [some b]) (a.put o.dst (.slice (some ⟨b, 0, none⟩) n n))) : rgWalk P l w0 K ((o, some (Tell.row n cs e)) :: r) k fs bs a := by
  subst hc
  refine ⟨fun w hb ht => ?_, fun v hv => ?_⟩
  · unfold okOp
    have h1 : (execOp a.eval o).run P w = .ok (.value (.slice (some ⟨w.heap.size, 0, none⟩) n n)) (w.alloc (.cells (cs (argsOf l.toArray o a)) e)) := by
      unfold execOp
      simp only [ho, Sem.run_bind, hrun w, Sem.run_pure, Result.andThen_ok]
    rw [h1]
    refine ⟨⟨_, rfl⟩, fun b e => ?_, (Below.refl _ _).alloc (Nat.le_refl _) _, fun b e => ?_⟩
    · cases e
      exact heap_alloc_new w _
    · cases e
      exact ⟨Nat.le_refl _, lt_of_some (heap_alloc_new w _)⟩
  · obtain ⟨b, rfl⟩ := hv
    have h1 := hK b
    have e : (fun w : World => w.heap[b]? = some (.cells (cs (argsOf l.toArray o a)) e (0, 0))) = (Tell.row n cs e).holds (argsOf l.toArray o a) (.slice (some ⟨b, 0, none⟩) n n) := by
      funext w
      apply propext
      refine ⟨fun h b' e => ?_, fun h => h b rfl⟩
      cases e
      exact h
    rw [e] at h1
    exact h1
theorem run_alloc {ty : TypeId} {cs : Array Value} (ho : o.op = .alloc ty) (hz : ∀ w, (zeroValue ty).run P w = .ok (.agg cs) w) (w : World) : (execOp a.eval o).run P w = .ok (.value (.pointer (some ⟨w.heap.size, 0, none⟩))) (w.alloc (.cells cs ty)) := by
  unfold execOp
  simp only [ho, Instr.alloc, hz, Sem.run_bind, Sem.run_pure, Result.andThen_ok]
  rfl
end
def Tell.goods : List (Option Tell) → Prop
  | [] => True
  | none :: r => goods r
  | some T :: r => T.Good ∧ goods r
theorem Tell.goods_mem : ∀ (ts : List (Option Tell)), Tell.goods ts → ∀ T, some T ∈ ts → T.Good
  | none :: r, h, T, hm => goods_mem r h T (by simpa using hm)
  | some T' :: r, h, T, hm => by
    rcases List.mem_cons.1 hm with e | hm
    · cases e; exact h.1
    · exact goods_mem r h.2 T hm
theorem wp_region_rg' {P : Program} {rid : Nat} {Q : Exit → Act → World → Prop} {a : Act} {w : World} {l : List Oper} (n : Nat) (ts : List (Option Tell)) (hm : P.follows .mixedOrders = true) (hl : ts.length = n) (hB : rgB l n a.tmps.size = true) (hT : Tell.goods ts)
    (h : rgWalk P l w (fun fs bs a' => ∀ w', Below w.heap.size w w' → (∀ p ∈ fs, p.2 w') → (bs.filterMap id).Nodup → (∀ b, some b ∈ bs → w.heap.size ≤ b ∧ b < w'.heap.size) → wpList P l.toArray Q (l.drop n) a' w') ((l.take n).zip ts) 0 [] [] a) : (Code.region rid l.toArray true).wp P Q a w :=
  wp_region_rg n ts hm hl hB (Tell.goods_mem ts hT) h
/-- Slices that lie in a row. -/
theorem lists_of {w : World} {b : Nat} {vs : List Value} {t : TypeId} {ls : List (List UInt8)} (h : w.heap[b]? = some (.cells vs.toArray t (0, 0))) (hl : vs.length = ls.length) (hi : ∀ (i : Nat) (h : i < ls.length), ∃ A' c', vs[i]? = some (.slice A' ls[i].length c') ∧ ls[i].length ≤ c' ∧ Reads w w.heap.size 1 A' ls[i].length (bvs ls[i])) : Lists w w.heap.size (some ⟨b, 0, none⟩) ls :=
  ⟨vs, ⟨by rw [hl, Nat.mul_one], fun _ => ⟨_, rfl, lt_of_heap h, fun j u hu => by rw [add_none, cell_of_row w b _ _ _ _ h, Nat.zero_add, List.getElem?_toArray]; exact hu⟩⟩, hi⟩
theorem lists2 {w : World} {b : Nat} {t : TypeId} {A1 A2 : Option Addr} {n1 n2 c1 c2 : Nat} {l1 l2 : List UInt8} (h : w.heap[b]? = some (.cells #[.slice A1 n1 c1, .slice A2 n2 c2] t (0, 0))) (e1 : l1.length = n1) (e2 : l2.length = n2) (k1 : n1 ≤ c1) (k2 : n2 ≤ c2) (r1 : Reads w w.heap.size 1 A1 n1 (bvs l1)) (r2 : Reads w w.heap.size 1 A2 n2 (bvs l2)) : Lists w w.heap.size (some ⟨b, 0, none⟩) [l1, l2] := by
  subst e1 e2
  refine lists_of (vs := [_, _]) h rfl fun i hi => ?_
  match i, hi with
  | 0, _ => exact ⟨A1, c1, rfl, k1, r1⟩
  | 1, _ => exact ⟨A2, c2, rfl, k2, r2⟩
theorem lists3 {w : World} {b : Nat} {t : TypeId} {A1 A2 A3 : Option Addr} {n1 n2 n3 c1 c2 c3 : Nat} {l1 l2 l3 : List UInt8} (h : w.heap[b]? = some (.cells #[.slice A1 n1 c1, .slice A2 n2 c2, .slice A3 n3 c3] t (0, 0))) (e1 : l1.length = n1) (e2 : l2.length = n2) (e3 : l3.length = n3) (k1 : n1 ≤ c1) (k2 : n2 ≤ c2) (k3 : n3 ≤ c3)
    (r1 : Reads w w.heap.size 1 A1 n1 (bvs l1)) (r2 : Reads w w.heap.size 1 A2 n2 (bvs l2)) (r3 : Reads w w.heap.size 1 A3 n3 (bvs l3)) : Lists w w.heap.size (some ⟨b, 0, none⟩) [l1, l2, l3] := by
  subst e1 e2 e3
  refine lists_of (vs := [_, _, _]) h rfl fun i hi => ?_
  match i, hi with
  | 0, _ => exact ⟨A1, c1, rfl, k1, r1⟩
  | 1, _ => exact ⟨A2, c2, rfl, k2, r2⟩
  | 2, _ => exact ⟨A3, c3, rfl, k3, r3⟩
section
variable {ops : Array Oper} {rest : List Oper} {o : Oper} {a : Act} {w0 w : World} {Q : Exit → Act → World → Prop} {bs : List (Nat × Array Value × TypeId)}
/-- A new slice. -/
theorem s_row (F : BK w0 w bs) (hg : o.guard = none) {ty : TypeId} {n : Nat} {parts : Array (Nat × Operand)} (ho : o.op = .buildSlice ty n parts) {e : TypeId} {cs : Array Value} (hrun : ∀ w, (Instr.buildSlice ty n (parts.map fun (i, x) => (i, a.eval x))).run Tryz.prog w = .ok (.slice (some ⟨w.heap.size, 0, none⟩) n n) (w.alloc (.cells cs e)))
    (h : ∀ w' b, BK w0 w' ((b, cs, e) :: bs) → Below w.heap.size w w' → wpList Tryz.prog ops Q rest (a.put o.dst (.slice (some ⟨b, 0, none⟩) n n)) w') : wpList Tryz.prog ops Q (o :: rest) a w := by
  refine wpList_plain hg fun _ hK => ?_
  unfold Oper.wp execOp
  simp only [ho, hrun w, Sem.run_bind, Sem.run_pure, Result.andThen_ok]
  exact hK _ _ (h _ _ (F.alloc rfl cs e) ((Below.refl _ _).alloc (Nat.le_refl _) _))
end
theorem bs2 (A1 A2 : Option Addr) (n1 n2 c1 c2 : Nat) (w : World) : (Instr.buildSlice 100 2 #[(0, .slice A1 n1 c1), (1, .slice A2 n2 c2)]).run Tryz.prog w = .ok (.slice (some ⟨w.heap.size, 0, none⟩) 2 2) (w.alloc (.cells #[.slice A1 n1 c1, .slice A2 n2 c2] 96)) := by kernel_rfl
theorem bs3 (A1 A2 A3 : Option Addr) (n1 n2 n3 c1 c2 c3 : Nat) (w : World) : (Instr.buildSlice 100 3 #[(0, .slice A1 n1 c1), (1, .slice A2 n2 c2), (2, .slice A3 n3 c3)]).run Tryz.prog w = .ok (.slice (some ⟨w.heap.size, 0, none⟩) 3 3) (w.alloc (.cells #[.slice A1 n1 c1, .slice A2 n2 c2, .slice A3 n3 c3] 96)) := by kernel_rfl
section
variable {ops : Array Oper} {rest : List Oper} {o : Oper} {a : Act} {w0 w : World} {Q : Exit → Act → World → Prop} {bs : List (Nat × Array Value × TypeId)}
theorem s_rows2 (F : BK w0 w bs) (hg : o.guard = none) {x y : Operand} (ho : o.op = .buildSlice 100 2 #[(0, x), (1, y)]) {A1 A2 : Option Addr} {n1 n2 c1 c2 : Nat} (hx : a.eval x = .slice A1 n1 c1) (hy : a.eval y = .slice A2 n2 c2)
    (h : ∀ w' b, BK w0 w' ((b, #[.slice A1 n1 c1, .slice A2 n2 c2], 96) :: bs) → Below w.heap.size w w' → wpList Tryz.prog ops Q rest (a.put o.dst (.slice (some ⟨b, 0, none⟩) 2 2)) w') : wpList Tryz.prog ops Q (o :: rest) a w :=
  s_row F hg ho (fun w => by simp only [List.map_toArray, List.map_cons, List.map_nil, hx, hy]; exact bs2 _ _ _ _ _ _ w) h
end
section
variable {l : List Oper} {w0 : World} {K : List (Nat × (World → Prop)) → List (Option Nat) → Act → Prop} {r : List (Oper × Option Tell)} {k : Nat} {fs : List (Nat × (World → Prop))} {bs : List (Option Nat)} {a : Act} {o : Oper}
theorem rg_rows2 {x y : Nat} (ho : o.op = .buildSlice 100 2 #[(0, .tmp x), (1, .tmp y)]) (hg : o.guard = none) {A1 A2 : Option Addr} {n1 n2 c1 c2 : Nat} (hx : a.eval (.tmp x) = .slice A1 n1 c1) (hy : a.eval (.tmp y) = .slice A2 n2 c2)
    (hK : ∀ b, rgWalk Tryz.prog l w0 K r (k + 1) (fs ++ [(k, fun w => w.heap[b]? = some (.cells #[.slice A1 n1 c1, .slice A2 n2 c2] 96 (0, 0)))]) (bs ++ [some b]) (a.put o.dst (.slice (some ⟨b, 0, none⟩) 2 2))) : rgWalk Tryz.prog l w0 K ((o, some (Tell.row 2 (fun xs => xs.toArray) 96)) :: r) k fs bs a :=
  rg_row ho (fun xs => xs.toArray) (fun w => by simp only [List.map_toArray, List.map_cons, List.map_nil, hx, hy]; exact bs2 _ _ _ _ _ _ w) (by
    have e : o.looksAt l.toArray = [x, y] := by unfold Oper.looksAt; rw [ho, hg]; rfl
    unfold argsOf
    rw [e, List.map_cons, List.map_cons, List.map_nil]
    simp only [Act.eval] at hx hy
    rw [hx, hy]) hK
theorem rg_rows3 {x y z : Nat} (ho : o.op = .buildSlice 100 3 #[(0, .tmp x), (1, .tmp y), (2, .tmp z)]) (hg : o.guard = none) {A1 A2 A3 : Option Addr} {n1 n2 n3 c1 c2 c3 : Nat} (hx : a.eval (.tmp x) = .slice A1 n1 c1) (hy : a.eval (.tmp y) = .slice A2 n2 c2) (hz : a.eval (.tmp z) = .slice A3 n3 c3)
    (hK : ∀ b, rgWalk Tryz.prog l w0 K r (k + 1) (fs ++ [(k, fun w => w.heap[b]? = some (.cells #[.slice A1 n1 c1, .slice A2 n2 c2, .slice A3 n3 c3] 96 (0, 0)))]) (bs ++ [some b]) (a.put o.dst (.slice (some ⟨b, 0, none⟩) 3 3))) : rgWalk Tryz.prog l w0 K ((o, some (Tell.row 3 (fun xs => xs.toArray) 96)) :: r) k fs bs a :=
  rg_row ho (fun xs => xs.toArray) (fun w => by simp only [List.map_toArray, List.map_cons, List.map_nil, hx, hy, hz]; exact bs3 _ _ _ _ _ _ _ _ _ w) (by
    have e : o.looksAt l.toArray = [x, y, z] := by unfold Oper.looksAt; rw [ho, hg]; rfl
    unfold argsOf
    rw [e, List.map_cons, List.map_cons, List.map_cons, List.map_nil]
    simp only [Act.eval] at hx hy hz
    rw [hx, hy, hz]) hK
end
section
variable {ops : Array Oper} {rest : List Oper} {o : Oper} {a : Act} {w : World} {Q : Exit → Act → World → Prop}
/-- A field of a struct that is at hand. -/
theorem s_field (hg : o.guard = none) {xt : TypeId} {x : Operand} {f : Nat} (ho : o.op = .field xt x f) {cs : Array Value} (hx : a.eval x = .agg cs) (v : Value) (hrun : ∀ w, (Instr.field xt (.agg cs) f).run Tryz.prog w = .ok v w) (h : wpList Tryz.prog ops Q rest (a.put o.dst v) w) : wpList Tryz.prog ops Q (o :: rest) a w := by
  refine wpList_plain hg fun _ hK => ?_
  unfold Oper.wp execOp
  simp only [ho, hx, hrun w, Sem.run_bind, Sem.run_pure, Result.andThen_ok]
  exact hK _ _ h
end
theorem extract_mid (a b d : List Value) (off n : Nat) (ha : a.length = off) (hb : b.length = n) : (a ++ (b ++ d)).toArray.extract off (off + n) = b.toArray := by
  subst ha hb
  apply Array.ext'
  rw [Array.toList_extract, List.toList_toArray, List.extract_eq_take_drop, List.drop_left, Nat.add_sub_cancel_left, List.take_left]
end Go.Proofs.YtbcpmnnlhdgbhaaGreatDoor

namespace Go.Proofs.YtbcpmnnlhdgbhaaGreatDoor
open Go.RowKit
theorem slice1 {ops : Array Oper} {rest : List Oper} {o : Oper} {a : Act} {w : World} {Q : Exit → Act → World → Prop} {x : Operand} {cs : Array Value} {t e : TypeId} {s : Nat} {ie : TypeInfo} {z : Value} (hg : o.guard = none) (ho : o.op = .buildSlice t 1 #[(0, x)])
    (hx : a.eval x = .agg cs) (hl : cs.size = s) (hu : Tryz.prog.underlying t = some (.slice e)) (hie : Tryz.prog.info? e = some ie) (hz : ie.zero = some z) (hsz : ie.size = s) (hs : 0 < s ∧ s ≤ 1000)
    (h : wpList Tryz.prog ops Q rest (a.put o.dst (.slice (some ⟨w.heap.size, 0, none⟩) 1 1)) (w.alloc (.cells cs e))) : wpList Tryz.prog ops Q (o :: rest) a w := by
  refine wpList_buildSlice hg t e 1 _ ho cs ie z hu hie hz (by rw [hsz]; omega) (by rw [hsz]; omega) ?_ h
  simp only [List.map_toArray, List.map_cons, List.map_nil, hx, hsz]
  have := Go.Great.fill_whole (s := s) hs.1 [Value.agg cs] ((Array.range (1 * s)).map (z.cells[· % z.cells.size]!)) (fun v hv => by simp at hv; subst hv; simp [Value.cells, hl]) (by simp)
  refine this.trans ?_
  simp [Value.cells]
theorem oneReads {w : World} {g s : Nat} {cs : Array Value} {t : TypeId} {f : Nat × Nat} (h : w.heap[g]? = some (.cells cs t f)) (hs : cs.size = s) : Reads w w.heap.size s (some ⟨g, 0, none⟩) 1 cs.toList := by
  refine ⟨by simp [hs], fun _ => ⟨_, rfl, lt_of_heap h, fun j u hu => ?_⟩⟩
  rw [add_none, cell_of_row w g _ _ _ _ h, Nat.zero_add]
  simpa using hu
theorem app1 {ops : Array Oper} {rest : List Oper} {o : Oper} {a : Act} {w : World} {Q : Exit → Act → World → Prop} {sl x : Operand} {base n g : Nat} {v : Value} {xs : List Value} {cs : Array Value} {t e : TypeId} {s y : Nat} {ie : TypeInfo} {z : Value} {f : Nat × Nat}
    (hgd : o.guard = none) (ho : o.op = .call { callee := .builtin .append, args := #[sl, x], argTypes := #[t, t] }) (hs : a.eval sl = v) (hx : a.eval x = .slice (some ⟨g, 0, none⟩) 1 1)
    (hu : Tryz.prog.underlying t = some (.slice e)) (hie : Tryz.prog.info? e = some ie) (hz : ie.zero = some z) (hsz : ie.size = s) (hby : ie.bytes = y) (hzs : z.cells.size = s) (hs0 : 0 < s)
    (hown : w.ownsRow base e s v n xs) (hblk : w.heap[g]? = some (.cells cs e f)) (hcs : cs.size = s) (h1 : (cs.all fun u => u.oneCell') = true) (hn : (n + 1) * y ≤ 140737488355328) (hn2 : n + 1 ≤ 140737488355328) (hbase : base ≤ w.heap.size)
    (h : ∀ v' w', w'.ownsRow base e s v' (n + 1) (xs ++ cs.toList) → w.grownBy w' v.ownBlock → (v'.ownBlock = v.ownBlock ∨ v'.ownBlock = some w.heap.size) → wpList Tryz.prog ops Q rest (a.put o.dst v') w') : wpList Tryz.prog ops Q (o :: rest) a w :=
  wpList_append_any w hgd sl x t ho base e ie z s y hu hie hz hsz hby hzs hs0 v n xs hs hown w.heap.size _ 1 1 cs.toList hx (oneReads hblk hcs) (fun u hu => by
    have h2 := Array.all_eq_true'.1 h1 u (by simpa using hu)
    exact h2) (by simp only [maxLen]; omega) hn hbase h
theorem reads_block {w : World} {b : Nat} {l : List UInt8} {t : TypeId} {f : Nat × Nat} {n : Nat} (h : w.heap[b]? = some (.cells (bvs l).toArray t f)) (hn : l.length = n) : Reads w w.heap.size 1 (some ⟨b, 0, none⟩) n (bvs l) := by
  subst hn
  refine ⟨by simp [bvs_length], fun _ => ⟨_, rfl, lt_of_heap h, fun j u hu => ?_⟩⟩
  rw [add_none]
  show w.cell? ⟨b, 0 + j, none⟩ = _
  rw [Nat.zero_add, cell_of_row w b j _ _ _ h]
  simpa using hu
end Go.Proofs.YtbcpmnnlhdgbhaaGreatDoor

namespace Go.Proofs.YtbcpmnnlhdgbhaaGreatDoor
open Go.RowKit
def OwnT (w : World) (base : Nat) (v : Value) (l : List UInt8) : Prop :=
  ∃ g cap cur fz, v = .slice (some ⟨g, 0, none⟩) l.length cap ∧ base ≤ g ∧ w.heap[g]? = some (.cells cur 5 fz) ∧ (fz.2 = 0 ∨ cap ≤ fz.1) ∧ l.length ≤ cap ∧ cap ≤ maxLen ∧ cur.size = cap ∧ cur.toList.take l.length = bvs l
theorem OwnT.reads {w : World} {base : Nat} {v : Value} {l : List UInt8} (h : OwnT w base v l) : ∃ g cap, v = .slice (some ⟨g, 0, none⟩) l.length cap ∧ base ≤ g ∧ Reads w w.heap.size 1 (some ⟨g, 0, none⟩) l.length (bvs l) := by
  obtain ⟨g, cap, cur, fz, hv, hb, hg, _, hl, _, hs, ht⟩ := h
  refine ⟨g, cap, hv, hb, by simp [bvs_length], fun _ => ⟨_, rfl, lt_of_heap hg, fun j u hu => ?_⟩⟩
  rw [add_none, Nat.zero_add, cell_of_row w g j _ _ _ hg]
  rw [← ht] at hu
  rw [List.getElem?_take] at hu
  split at hu
  · simpa using hu
  · cases hu
theorem run_storeCells_tail (P : Program) (g o : Nat) (t : TypeId) (fz : Nat × Nat) : ∀ (vs : List Value) (i : Nat) (cur : Array Value) (w : World), w.heap[g]? = some (.cells cur t fz) → (fz.2 = 0 ∨ cur.size ≤ fz.1) → o + i + vs.length ≤ cur.size → (∀ u ∈ vs, u.oneCell' = true) →
    (storeCells ⟨g, o, none⟩ vs i).run P w = .ok () (w.setRow g (cur.toList.take (o + i) ++ vs ++ cur.toList.drop (o + i + vs.length)).toArray)
  | [], i, cur, w, hg, _, _, _ => by
    simp only [storeCells, List.append_nil, List.length_nil, Nat.add_zero, List.take_append_drop, Array.toArray_toList]
    rw [setRow_self w g cur t fz hg]
    rfl
  | v :: rest, i, cur, w, hg, hfz, hl, h1 => by
    have hi : o + i < cur.size := by simp at hl; omega
    have hadd : (⟨g, o, none⟩ : Addr).add i = ⟨g, o + i, none⟩ := add_none g o i
    have hcell : w.cell? ⟨g, o + i, none⟩ = some cur[o + i] := by simp [World.cell?, hg, hi]
    have hfro : w.frozen? ⟨g, o + i, none⟩ = false := by
      obtain ⟨lo, hi'⟩ := fz
      simp only [World.frozen?, hg, Bool.and_eq_false_iff, decide_eq_false_iff_not]
      simp only at hfz
      omega
    have hst : (store ((⟨g, o, none⟩ : Addr).add i) v).run P w = .ok () (w.setRow g (cur.setIfInBounds (o + i) v)) := by
      rw [hadd, run_store P w _ v _ (h1 v (by simp)), hcell]
      simp [hfro, setCell_eq_setRow w g (o + i) cur t fz v hg]
    have ih := run_storeCells_tail P g o t fz rest (i + 1) (cur.setIfInBounds (o + i) v) (w.setRow g (cur.setIfInBounds (o + i) v)) (setRow_heap w g cur _ t _ hg) (by simpa using hfz) (by simp at hl ⊢; omega) (fun x hx => h1 x (by simp [hx]))
    simp only [storeCells, Sem.run_bind, hst, Result.andThen_ok, ih, setRow_setRow]
    congr 3
    have e := list_seg_step cur.toList (o + i) v rest (by simp at hl ⊢; omega)
    simpa [Array.toList_setIfInBounds, Nat.add_assoc] using e
/-- What an append in place leaves. -/
theorem OwnT.room {w : World} {base g cap : Nat} {l news : List UInt8} {cur : Array Value} {fz : Nat × Nat} (hb : base ≤ g) (hg : w.heap[g]? = some (.cells cur 5 fz)) (hfz : fz.2 = 0 ∨ cap ≤ fz.1) (hc : cap ≤ maxLen) (hs : cur.size = cap) (ht : cur.toList.take l.length = bvs l) (hl : l.length ≤ cap) (hroom : l.length + news.length ≤ cap) :
    OwnT (w.setRow g (cur.toList.take l.length ++ bvs news ++ cur.toList.drop (l.length + news.length)).toArray) base (.slice (some ⟨g, 0, none⟩) (l.length + news.length) cap) (l ++ news) := by
  refine ⟨g, cap, _, fz, by rw [List.length_append], hb, setRow_heap w g cur _ 5 _ hg, hfz, by rw [List.length_append]; exact hroom, hc, ?_, ?_⟩
  · simp only [List.size_toArray, List.length_append, List.length_take, List.length_drop, Array.length_toList, bvs_length]
    omega
  · rw [ht, bvs_append, List.length_append]
    have h2 : (bvs l ++ bvs news).length = l.length + news.length := by simp [bvs_length]
    rw [← h2]
    exact List.take_left
/-- What an append that grows leaves. -/
theorem OwnT.fresh {w : World} {base : Nat} {l : List UInt8} {cap : Nat} (hb : base ≤ w.heap.size) (hl : l.length ≤ cap) (hc : cap ≤ maxLen) : OwnT (w.drew.alloc (.cells ((bvs l).toArray ++ Builtin.zeroCells (Value.int .u8 0).cells (cap - l.length)) 5)) base (.slice (some ⟨w.heap.size, 0, none⟩) l.length cap) l := by
  refine ⟨w.heap.size, cap, _, (0, 0), rfl, hb, heap_alloc_new w.drew _, .inl rfl, hl, hc, ?_, ?_⟩
  · have hz1 : (Value.int IntKind.u8 0).cells.size = 1 := rfl
    simp only [Array.size_append, List.size_toArray, size_zeroCells, hz1, bvs_length]
    omega
  · have h2 : (bvs l).length = l.length := bvs_length l
    simp only [Array.toList_append]
    rw [← h2]
    exact List.take_left
theorem run_appT {w : World} {base B : Nat} {v : Value} {l news : List UInt8} {A : Option Addr} {m c : Nat} (ty : TypeId) (hown : OwnT w base v l) (hr : Reads w B 1 A m (bvs news)) (hbytes : l.length + m ≤ 140737488355328) (hbase : base ≤ w.heap.size) :
    ∃ v' w', (Builtin.append_ #[96, 96] ty #[v, .slice A m c]).run Tryz.prog w = .ok v' w' ∧ OwnT w' base v' (l ++ news) ∧ w.grownBy w' v.ownBlock ∧ (v'.ownBlock = v.ownBlock ∨ v'.ownBlock = some w.heap.size) := by
  obtain ⟨i0, hi0, hz0, hz1, hz2⟩ := info_parts u8info
  have hm : m = news.length := by have := hr.1; rw [bvs_length] at this; omega
  subst hm
  obtain ⟨g, cap, cur, fz, rfl, hb, hg, hfz, hl, hc, hs, ht⟩ := hown
  have h63 : l.length + news.length ≤ maxLen := by simp only [maxLen]; omega
  rcases A with _ | ad
  · have h0 : news = [] := by
      rcases Nat.eq_zero_or_pos news.length with h0 | h0
      · exact List.eq_nil_of_length_eq_zero h0
      · obtain ⟨ad, h, _⟩ := hr.2 h0; cases h
    subst h0
    refine ⟨_, w, ?_, ⟨g, cap, cur, fz, by simp, hb, hg, hfz, by simpa using hl, hc, hs, by simpa using ht⟩, World.grownBy.refl w _, .inl rfl⟩
    simp [Builtin.append_, run_underlying Tryz.underlying96, sizeOf, typeInfo, hi0, Builtin.lenOf, Builtin.firstCells, loadCells, hl, storeCells]
  · have hcells : ∀ j u, (bvs news)[j]? = some u → w.cell? (ad.add j) = some u := by
      intro j u hu
      rcases Nat.eq_zero_or_pos news.length with h0 | h0
      · have h3 := List.eq_nil_of_length_eq_zero h0
        subst h3
        simp [bvs] at hu
      · obtain ⟨ad', h, _, hc⟩ := hr.2 h0
        cases h
        exact hc j u hu
    by_cases hroom : l.length + news.length ≤ cap
    · have hf := run_firstCells_some (P := Tryz.prog) w i0.size news.length ad news.length c (bvs news) (by rw [hz1, bvs_length, Nat.mul_one]) hcells
      have hst := run_storeCells_tail Tryz.prog g l.length 5 fz (bvs news) 0 cur w hg (by rw [hs]; exact hfz) (by rw [bvs_length]; omega) (bvs_one _)
      simp only [Nat.add_zero, bvs_length] at hst
      refine ⟨_, _, ?_, OwnT.room hb hg hfz hc hs ht hl hroom, ⟨rfl, rfl, rfl, by simp, fun k _ hk => setRow_other w g k _ (fun e => hk (by simp [Value.ownBlock, e]))⟩, .inl rfl⟩
      simp [Builtin.append_, run_underlying Tryz.underlying96, sizeOf, typeInfo, hi0, hz1, Builtin.lenOf, hroom, Addr.add_lit]
      rw [hz1] at hf
      simp [hf, hst]
    · have holds : ∀ j u, (bvs l)[j]? = some u → w.cell? ((⟨g, 0, none⟩ : Addr).add j) = some u := by
        obtain ⟨g2, cap2, hv2, _, hr2⟩ := OwnT.reads ⟨g, cap, cur, fz, rfl, hb, hg, hfz, hl, hc, hs, ht⟩
        cases hv2
        intro j u hu
        rcases Nat.eq_zero_or_pos l.length with h0 | h0
        · have h3 := List.eq_nil_of_length_eq_zero h0
          subst h3
          simp [bvs] at hu
        · obtain ⟨ad', h, _, hc⟩ := hr2.2 h0
          cases h
          exact hc j u hu
      have hr3 := run_append_grow (P := Tryz.prog) w 96 ty 5 i0 (.int .u8 0) Tryz.underlying96 hi0 hz0 ⟨g, 0, none⟩ l.length cap (bvs l) (by rw [hz1, bvs_length, Nat.mul_one]) holds ad news.length c (bvs news) (by rw [hz1, bvs_length, Nat.mul_one]) hcells (by omega) (by simp only [maxLen] at h63; omega) (by rw [hz2]; exact growslice_fits (by omega) (by omega))
      have hge := grownCap_ge w (l.length + news.length) cap 5
      have hcm := grownCap_le_maxLen w (l.length + news.length) cap 5 h63
      have hF := OwnT.fresh (w := w) (base := base) (l := l ++ news) (cap := grownCap w (l.length + news.length) cap 5) hbase (by rw [List.length_append]; exact hge) hcm
      rw [List.length_append, bvs_append] at hF
      refine ⟨_, _, hr3, ?_, ⟨rfl, rfl, rfl, by simp, fun k hk _ => heap_alloc_old w.drew _ hk⟩, .inr rfl⟩
      rw [show ((bvs l).toArray ++ (bvs news).toArray) = (bvs l ++ bvs news).toArray from by simp]
      exact hF
theorem wpList_app_gen {P : Program} {ops : Array Oper} {rest : List Oper} {o : Oper} {a : Act} {w : World} {Q : Exit → Act → World → Prop} {s x : Operand} {t u : TypeId} {v y : Value} {R : Value → World → Prop}
    (hgd : o.guard = none) (ho : o.op = .call { callee := .builtin .append, args := #[s, x], argTypes := #[t, u] }) (hs : a.eval s = v) (hx : a.eval x = y)
    (hr : ∃ v' w', (Builtin.append_ #[t, u] o.type #[v, y]).run P w = .ok v' w' ∧ R v' w') (h : ∀ v' w', R v' w' → wpList P ops Q rest (a.put o.dst v') w') : wpList P ops Q (o :: rest) a w := by
  refine wpList_plain hgd fun K hK => ?_
  obtain ⟨v', w', hrun, h2⟩ := hr
  unfold Oper.wp execOp
  simp only [ho, resolve, invoke, builtin, Sem.run_bind, Sem.run_pure, Result.andThen_ok, List.map_toArray, List.map_cons, List.map_nil, hs, hx, hrun]
  exact hK _ _ (h v' w' h2)
theorem appT {ops : Array Oper} {rest : List Oper} {o : Oper} {a : Act} {w : World} {Q : Exit → Act → World → Prop} {s x : Operand} {base B : Nat} {v : Value} {l news : List UInt8} {A : Option Addr} {m c : Nat}
    (hgd : o.guard = none) (ho : o.op = .call { callee := .builtin .append, args := #[s, x], argTypes := #[96, 96] })
    (hs : a.eval s = v) (hx : a.eval x = .slice A m c) (hown : OwnT w base v l) (hr : Reads w B 1 A m (bvs news)) (hbytes : l.length + m ≤ 140737488355328) (hbase : base ≤ w.heap.size)
    (h : ∀ v' w', OwnT w' base v' (l ++ news) → w.grownBy w' v.ownBlock → (v'.ownBlock = v.ownBlock ∨ v'.ownBlock = some w.heap.size) → wpList Tryz.prog ops Q rest (a.put o.dst v') w') : wpList Tryz.prog ops Q (o :: rest) a w :=
  wpList_app_gen hgd ho hs hx (run_appT o.type hown hr hbytes hbase) (fun v' w' hh => h v' w' hh.1 hh.2.1 hh.2.2)
/-- What a string's conversion leaves. -/
theorem ownT_bytes (w : World) (l : List UInt8) (hl : l.length ≤ maxLen) : OwnT (Lib.bytesWorld w 5 ⟨l.toArray⟩) w.heap.size (.slice (some ⟨w.heap.size, 0, none⟩) (⟨l.toArray⟩ : ByteArray).size (grownCap w (⟨l.toArray⟩ : ByteArray).size 0 5)) l := by
  have hsz : (⟨l.toArray⟩ : ByteArray).size = l.length := by simp [ByteArray.size]
  have hge := grownCap_ge w l.length 0 5
  have hcm := grownCap_le_maxLen w l.length 0 5 hl
  have hcs : (Lib.bytesCells w 5 ⟨l.toArray⟩).size = grownCap w l.length 0 5 := by
    simp only [Lib.bytesCells, Array.size_append, Array.size_map, Array.size_replicate, hsz]
    have h3 : (⟨l.toArray⟩ : ByteArray).data.size = l.length := by simp
    have h4 : l.toArray.size = l.length := by simp
    omega
  refine ⟨w.heap.size, grownCap w l.length 0 5, _, _, by rw [hsz], Nat.le_refl _, Lib.bytesWorld_at_new w _ _, .inr (by rw [hcs]; exact Nat.le_refl _), hge, hcm, hcs, ?_⟩
  simp only [Lib.bytesCells, Array.toList_append, Array.toList_map]
  have h2 : (List.map (fun b : UInt8 => Value.int .u8 (b.toNat : Int)) l.toArray.toList).length = l.length := by simp
  show List.take l.length (List.map (fun b : UInt8 => Value.int .u8 (b.toNat : Int)) l.toArray.toList ++ _) = bvs l
  rw [List.take_append_of_le_length (by rw [h2]; exact Nat.le_refl _), List.take_of_length_le (by rw [h2]; exact Nat.le_refl _)]
  simp [bvs, bv]
end Go.Proofs.YtbcpmnnlhdgbhaaGreatDoor
