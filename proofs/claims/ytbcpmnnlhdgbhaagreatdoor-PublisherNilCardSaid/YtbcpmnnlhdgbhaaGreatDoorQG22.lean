/- The texts Rg of this work, merged by wip/merge.py. No conditions. -/
import Derived.Test.YtbcpmnnlhdgbhaaGreatDoorQG10
namespace Go.Proofs.YtbcpmnnlhdgbhaaGreatDoor
open Go.RowKit
/-- What is told of a value. -/
structure Tell where
  ok : Value → Prop
  holds : List Value → Value → World → Prop
  own : Value → Option Nat
structure Tell.Good (T : Tell) : Prop where
  some : ∃ v, T.ok v
  stays : ∀ xs v w w', T.holds xs v w → Below w.heap.size w w' → T.holds xs v w'
def argsOf (ops : Array Oper) (o : Oper) (a : Act) : List Value := (o.looksAt ops).map fun s => a.tmps.getD s undef
/-- The j-th has come up whenever the k-th does. -/
def depB (l : List Oper) (k j : Nat) : Bool := match l[k]? with | none => false | some o => o.after.toList.any fun e => Region.binds .any e && (e.on == j || reachB .any l.toArray l.length j e.on)
def told (l : List Oper) (k : Nat) (fs : List (Nat × (World → Prop))) (w : World) : Prop := ∀ p ∈ fs, depB l k p.1 = true → p.2 w
def Telling (T : Tell) (xs : List Value) (w : World) (u : Value) (w' : World) : Prop := T.ok u ∧ T.holds xs u w' ∧ Below w.heap.size w w' ∧ ∀ b, T.own u = some b → w.heap.size ≤ b ∧ b < w'.heap.size
def rgWalk (P : Program) (l : List Oper) (w0 : World) (K : List (Nat × (World → Prop)) → List (Option Nat) → Act → Prop) : List (Oper × Option Tell) → Nat → List (Nat × (World → Prop)) → List (Option Nat) → Act → Prop
  | [], _, fs, bs, a => K fs bs a
  | (o, none) :: r, k, fs, bs, a => ∃ v, (∀ w, Below w0.heap.size w0 w → told l k fs w → (execOp a.eval o).run P w = .ok (.value v) w) ∧ rgWalk P l w0 K r (k + 1) fs bs (a.put o.dst v)
  | (o, some T) :: r, k, fs, bs, a => (∀ w, Below w0.heap.size w0 w → told l k fs w → okOp P o a w (Telling T (argsOf l.toArray o a) w)) ∧
      ∀ v, T.ok v → rgWalk P l w0 K r (k + 1) (fs ++ [(k, T.holds (argsOf l.toArray o a) v)]) (bs ++ [T.own v]) (a.put o.dst v)
def factsOf (l : List Oper) : List (Oper × Option Tell) → Nat → List Value → Act → List (Nat × (World → Prop))
  | (o, none) :: r, k, v :: vs, a => factsOf l r (k + 1) vs (a.put o.dst v)
  | (o, some T) :: r, k, v :: vs, a => (k, T.holds (argsOf l.toArray o a) v) :: factsOf l r (k + 1) vs (a.put o.dst v)
  | _, _, _, _ => []
def ownsOf : List (Oper × Option Tell) → List Value → List (Option Nat)
  | (_, none) :: r, _ :: vs => ownsOf r vs
  | (_, some T) :: r, v :: vs => T.own v :: ownsOf r vs
  | _, _ => []
theorem mem_factsOf (l : List Oper) {p : Nat × (World → Prop)} : ∀ (r : List (Oper × Option Tell)) (k : Nat) (vs : List Value) (a : Act), p ∈ factsOf l r k vs a →
    ∃ (i : Nat) (o : Oper) (T : Tell) (v : Value), r[i]? = some (o, some T) ∧ vs[i]? = some v ∧ p = (k + i, T.holds (argsOf l.toArray o (putAll ((r.map (·.1)).take i) (vs.take i) a)) v)
  | [], _, vs, _, h => by cases vs <;> cases h
  | (o, none) :: r, k, [], a, h => by cases h
  | (o, some T) :: r, k, [], a, h => by cases h
  | (o, none) :: r, k, v :: vs, a, h => by
    obtain ⟨i, o', T, v', h1, h2, h3⟩ := mem_factsOf l r (k + 1) vs _ h
    exact ⟨i + 1, o', T, v', h1, h2, by rw [h3, Nat.add_assoc, Nat.add_comm 1 i]; rfl⟩
  | (o, some T) :: r, k, v :: vs, a, h => by
    rcases List.mem_cons.1 h with h | h
    · exact ⟨0, o, T, v, rfl, rfl, h⟩
    · obtain ⟨i, o', T', v', h1, h2, h3⟩ := mem_factsOf l r (k + 1) vs _ h
      exact ⟨i + 1, o', T', v', h1, h2, by rw [h3, Nat.add_assoc, Nat.add_comm 1 i]; rfl⟩
theorem mem_ownsOf {b : Option Nat} : ∀ (r : List (Oper × Option Tell)) (vs : List Value), b ∈ ownsOf r vs → ∃ (i : Nat) (o : Oper) (T : Tell) (v : Value), r[i]? = some (o, some T) ∧ vs[i]? = some v ∧ b = T.own v
  | [], vs, h => by cases vs <;> cases h
  | (o, none) :: r, [], h => by cases h
  | (o, some T) :: r, [], h => by cases h
  | (o, none) :: r, v :: vs, h => by
    obtain ⟨i, o', T, v', h1, h2, h3⟩ := mem_ownsOf r vs h
    exact ⟨i + 1, o', T, v', h1, h2, h3⟩
  | (o, some T) :: r, v :: vs, h => by
    rcases List.mem_cons.1 h with h | h
    · exact ⟨0, o, T, v, rfl, rfl, h⟩
    · obtain ⟨i, o', T', v', h1, h2, h3⟩ := mem_ownsOf r vs h
      exact ⟨i + 1, o', T', v', h1, h2, h3⟩
theorem nodup_ownsOf : ∀ (r : List (Oper × Option Tell)) (vs : List Value), (∀ (i j : Nat) (oi oj : Oper) (Ti Tj : Tell) (vi vj : Value) (b : Nat), r[i]? = some (oi, some Ti) → r[j]? = some (oj, some Tj) → vs[i]? = some vi → vs[j]? = some vj → i ≠ j → Ti.own vi = some b → Tj.own vj = some b → False) → ((ownsOf r vs).filterMap id).Nodup
  | [], vs, _ => by cases vs <;> exact List.nodup_nil
  | (o, none) :: r, [], _ => List.nodup_nil
  | (o, some T) :: r, [], _ => List.nodup_nil
  | (o, none) :: r, v :: vs, h => nodup_ownsOf r vs fun i j oi oj Ti Tj vi vj b h1 h2 h3 h4 h5 => h (i + 1) (j + 1) oi oj Ti Tj vi vj b h1 h2 h3 h4 (by omega)
  | (o, some T) :: r, v :: vs, h => by
    have ih := nodup_ownsOf r vs fun i j oi oj Ti Tj vi vj b h1 h2 h3 h4 h5 => h (i + 1) (j + 1) oi oj Ti Tj vi vj b h1 h2 h3 h4 (by omega)
    rw [ownsOf, List.filterMap_cons]
    cases hv : T.own v with
    | none => exact ih
    | some b =>
      refine List.nodup_cons.2 ⟨fun hm => ?_, ih⟩
      obtain ⟨x, hx, hb⟩ := List.mem_filterMap.1 hm
      obtain ⟨i, o', T', v', h1, h2, h3⟩ := mem_ownsOf r vs hx
      exact h 0 (i + 1) o o' T T' v v' b rfl h1 rfl h2 (by omega) hv (h3.symm.trans hb)
theorem rg_path {P : Program} {l : List Oper} {w0 : World} {K : List (Nat × (World → Prop)) → List (Option Nat) → Act → Prop} (ξ : Nat → Value) : ∀ (r : List (Oper × Option Tell)) (k : Nat) (fs : List (Nat × (World → Prop))) (bs : List (Option Nat)) (a : Act),
    rgWalk P l w0 K r k fs bs a → (∀ (i : Nat) (o : Oper) (T : Tell), r[i]? = some (o, some T) → T.ok (ξ (k + i))) → ∃ vs : List Value, vs.length = r.length ∧ (∀ (i : Nat) (o : Oper) (T : Tell), r[i]? = some (o, some T) → vs[i]? = some (ξ (k + i))) ∧ K (fs ++ factsOf l r k vs a) (bs ++ ownsOf r vs) (putAll (r.map (·.1)) vs a) ∧
      ∀ (i : Nat) (o : Oper) (t : Option Tell), r[i]? = some (o, t) → ∀ w, Below w0.heap.size w0 w → told l (k + i) (fs ++ factsOf l (r.take i) k (vs.take i) a) w →
        match t with
        | none => ∃ v, vs[i]? = some v ∧ (execOp (putAll ((r.map (·.1)).take i) (vs.take i) a).eval o).run P w = .ok (.value v) w
        | some T => okOp P o (putAll ((r.map (·.1)).take i) (vs.take i) a) w (Telling T (argsOf l.toArray o (putAll ((r.map (·.1)).take i) (vs.take i) a)) w)
  | [], k, fs, bs, a, h, _ => ⟨[], rfl, fun i o T h => by simp at h, by simpa [factsOf, ownsOf, putAll, rgWalk] using h, fun i o t h => by simp at h⟩
  | (o, none) :: r, k, fs, bs, a, h, hξ => by
    obtain ⟨v, h1, h2⟩ := h
    obtain ⟨vs, hl, hv, hK, hs⟩ := rg_path ξ r (k + 1) fs bs _ h2 (fun i o T hi => by have := hξ (i + 1) o T hi; rwa [show k + (i + 1) = k + 1 + i by omega] at this)
    refine ⟨v :: vs, by simp [hl], fun i o' T hi => ?_, hK, fun i o' t hi w hb ht => ?_⟩
    · cases i with
      | zero => simp at hi
      | succ i => rw [show k + (i + 1) = k + 1 + i by omega]; exact hv i o' T hi
    · cases i with
      | zero =>
        simp only [List.getElem?_cons_zero, Option.some.injEq, Prod.mk.injEq] at hi
        obtain ⟨rfl, rfl⟩ := hi
        refine ⟨v, rfl, h1 w hb ?_⟩
        simpa [factsOf] using ht
      | succ i =>
        have := hs i o' t hi w hb (by rw [show k + 1 + i = k + (i + 1) by omega]; exact ht)
        exact this
  | (o, some T) :: r, k, fs, bs, a, h, hξ => by
    obtain ⟨h1, h2⟩ := h
    have h3 := h2 (ξ k) (hξ 0 o T rfl)
    obtain ⟨vs, hl, hv, hK, hs⟩ := rg_path ξ r (k + 1) _ _ _ h3 (fun i o T hi => by have := hξ (i + 1) o T hi; rwa [show k + (i + 1) = k + 1 + i by omega] at this)
    refine ⟨ξ k :: vs, by simp [hl], fun i o' T' hi => ?_, ?_, fun i o' t hi w hb ht => ?_⟩
    · cases i with
      | zero => rfl
      | succ i => rw [show k + (i + 1) = k + 1 + i by omega]; exact hv i o' T' hi
    · rw [List.append_assoc, List.append_assoc] at hK
      exact hK
    · cases i with
      | zero =>
        simp only [List.getElem?_cons_zero, Option.some.injEq, Prod.mk.injEq] at hi
        obtain ⟨rfl, rfl⟩ := hi
        exact h1 w hb (by simpa [factsOf] using ht)
      | succ i =>
        have := hs i o' t hi w hb (by rw [show k + 1 + i = k + (i + 1) by omega, List.append_assoc]; exact ht)
        exact this
/-- What the kernel is asked of such a region: n operations, then what waits for all of them. -/
def rgB (l : List Oper) (n : Nat) (size : Nat) : Bool :=
  decide (n ≤ l.length) && Region.noSelect l.toArray &&
  ((List.range l.length).all fun k => match l[k]? with | none => true | some o => o.after.toList.all fun e => !Region.binds .any e || decide (e.on < k)) &&
  ((List.range l.length).all fun k => decide (k < n) || match l[k]? with | none => true | some o => (List.range n).all fun j => (o.after.toList.any fun e => Region.binds .any e && e.on == j) || o.after.toList.any fun e => Region.binds .any e && reachB .any l.toArray l.length j e.on) &&
  ((l.take n).all fun o => o.guard.isNone && match o.dst with | none => false | some d => decide (d < size)) &&
  decide (((l.take n).map (·.dst)).Nodup) &&
  ((List.range n).all fun k => match l[k]? with | none => true | some o => (o.looksAt l.toArray).all fun s => (List.range n).all fun j => match l[j]? with | none => true | some oj => !(oj.dst == some s) || (decide (j < k) && o.after.toList.any fun e => Region.binds .any e && e.on == j)) &&
  Region.seqB .any l.toArray (l.length - n) n (List.replicate n true ++ List.replicate (l.length - n) false).toArray
structure RJ (P : Program) (w0 : World) (l : List Oper) (r : List (Oper × Option Tell)) (a0 : Act) (ξ : Nat → Value) (L : Array Bool) (a : Act) (w : World) : Prop where
  below : Below w0.heap.size w0 w
  defers : a.defers = a0.defers
  size : a.tmps.size = a0.tmps.size
  other : ∀ s, (∀ o ∈ r.map (·.1), o.dst ≠ some s) → a.tmps[s]? = a0.tmps[s]?
  ok : ∀ (i : Nat) (o : Oper) (T : Tell), r[i]? = some (o, some T) → T.ok (ξ i)
  vals : ∀ (i : Nat) (o : Oper) (T : Tell) (s : Nat), r[i]? = some (o, some T) → o.dst = some s → L.getD i false = true → a.tmps[s]? = some (ξ i) ∧ T.holds (argsOf l.toArray o a) (ξ i) w ∧ ∀ b, T.own (ξ i) = some b → w0.heap.size ≤ b ∧ b < w.heap.size
  owns : ∀ (i j : Nat) (oi oj : Oper) (Ti Tj : Tell) (b : Nat), r[i]? = some (oi, some Ti) → r[j]? = some (oj, some Tj) → i ≠ j → L.getD i false = true → L.getD j false = true → Ti.own (ξ i) = some b → Tj.own (ξ j) = some b → False
  pures : ∀ (i : Nat) (o : Oper) (s : Nat), r[i]? = some (o, none) → o.dst = some s → L.getD i false = true → ∃ u wk, a.tmps[s]? = some u ∧ Below w0.heap.size w0 wk ∧ (∀ (j : Nat) (oj : Oper) (T : Tell), r[j]? = some (oj, some T) → depB l i j = true → T.holds (argsOf l.toArray oj a) (ξ j) wk) ∧ (execOp a.eval o).run P wk = .ok (.value u) wk
theorem depB_listed {l : List Oper} {L : Array Bool} (hD : DC .any l.toArray L) {k j : Nat} (h : depB l k j = true) (hall : ∀ o, l[k]? = some o → ∀ e ∈ o.after, Region.binds .any e = true → L.getD e.on false = true) : L.getD j false = true := by
  unfold depB at h
  split at h
  · cases h
  · rename_i o ho
    obtain ⟨e, he, hb⟩ := List.any_eq_true.1 h
    rw [Bool.and_eq_true, Bool.or_eq_true] at hb
    have h1 := hall o ho e (Array.mem_toList_iff.1 he) hb.1
    rcases hb.2 with h2 | h2
    · rw [beq_iff_eq] at h2; rw [← h2]; exact h1
    · exact reach_listed hD _ _ h2 h1
theorem args_same {a a' : Act} {o : Oper} {ops : Array Oper} (h : ∀ s ∈ o.looksAt ops, a'.tmps[s]? = a.tmps[s]?) : argsOf ops o a' = argsOf ops o a := by
  unfold argsOf
  refine List.map_congr_left fun s hs => ?_
  rw [Array.getD_eq_getD_getElem?, Array.getD_eq_getD_getElem?, h s hs]
/-- What lies in the slots on the way is what the walk in the order of the text finds there. -/
theorem rg_agree {P : Program} {w0 w : World} {l : List Oper} {r : List (Oper × Option Tell)} {a0 a : Act} {ξ : Nat → Value} {L : Array Bool} {vs : List Value} (hr : ∀ (i : Nat) (o : Oper) (t : Option Tell), r[i]? = some (o, t) → l[i]? = some o) (hsel : Region.noSelect l.toArray = true)
    (hnd : ((r.map (·.1)).map (·.dst)).Nodup) (hdst : ∀ (i : Nat) (o : Oper) (t : Option Tell), r[i]? = some (o, t) → ∃ d, o.dst = some d ∧ d < a0.tmps.size)
    (hlook : ∀ (k : Nat) (o : Oper) (t : Option Tell), r[k]? = some (o, t) → ∀ s ∈ o.looksAt l.toArray, ∀ (j : Nat) (oj : Oper) (tj : Option Tell), r[j]? = some (oj, tj) → oj.dst = some s → j < k ∧ ∃ e ∈ o.after, Region.binds .any e = true ∧ e.on = j)
    (hD : DC .any l.toArray L) (hJ : RJ P w0 l r a0 ξ L a w) (hvl : vs.length = r.length) (hv : ∀ (i : Nat) (o : Oper) (T : Tell), r[i]? = some (o, some T) → vs[i]? = some (ξ i))
    (hs : ∀ (i : Nat) (o : Oper), r[i]? = some (o, none) → ∀ w, Below w0.heap.size w0 w → told l i (factsOf l (r.take i) 0 (vs.take i) a0) w → ∃ v, vs[i]? = some v ∧ (execOp (putAll ((r.map (·.1)).take i) (vs.take i) a0).eval o).run P w = .ok (.value v) w) :
    ∀ (k : Nat) (o : Oper) (t : Option Tell), r[k]? = some (o, t) →
      ((∀ e ∈ o.after, Region.binds .any e = true → L.getD e.on false = true) → ∀ s ∈ o.looksAt l.toArray, a.tmps[s]? = (putAll ((r.map (·.1)).take k) (vs.take k) a0).tmps[s]?) ∧
      (L.getD k false = true → ∀ s, o.dst = some s → a.tmps[s]? = vs[k]?) := by
  intro k
  induction k using Nat.strongRecOn with
  | _ k ih =>
    intro o t ho
    have hA : (∀ e ∈ o.after, Region.binds .any e = true → L.getD e.on false = true) → ∀ s ∈ o.looksAt l.toArray, a.tmps[s]? = (putAll ((r.map (·.1)).take k) (vs.take k) a0).tmps[s]? := fun hall s hsl => by
      by_cases hex : ∃ (i : Nat) (oi : Oper) (ti : Option Tell), r[i]? = some (oi, ti) ∧ oi.dst = some s
      · obtain ⟨i, oi, ti, hoi, hdi⟩ := hex
        obtain ⟨hik, e, he, hb, hon⟩ := hlook k o t ho s hsl i oi ti hoi hdi
        have h1 := hall e he hb
        rw [hon] at h1
        rw [(ih i hik oi ti hoi).2 h1 s hdi]
        have hil : i < r.length := (List.getElem?_eq_some_iff.1 hoi).1
        obtain ⟨vi, hvi⟩ : ∃ v, vs[i]? = some v := ⟨vs[i]'(by omega), List.getElem?_eq_getElem _⟩
        obtain ⟨d, hd, hds⟩ := hdst i oi ti hoi
        rw [hdi] at hd; cases hd
        rw [hvi]
        refine (putAll_at _ _ a0 s i oi vi ?_ (by rw [List.getElem?_take, if_pos hik, List.getElem?_map, hoi]; rfl) hdi (by rw [List.getElem?_take, if_pos hik]; exact hvi) hds).symm
        rw [List.map_take]
        exact hnd.sublist (List.take_sublist _ _)
      · rw [hJ.other s (fun o' ho' e => by
          obtain ⟨i, hi⟩ := List.getElem?_of_mem ho'
          rw [List.getElem?_map] at hi
          cases hri : r[i]? with
          | none => rw [hri] at hi; cases hi
          | some p => rw [hri] at hi; cases hi; exact hex ⟨i, p.1, p.2, hri, e⟩), putAll_other]
        intro o' ho' e
        obtain ⟨i, hi⟩ := List.getElem?_of_mem (List.mem_of_mem_take ho')
        rw [List.getElem?_map] at hi
        cases hri : r[i]? with
        | none => rw [hri] at hi; cases hi
        | some p => rw [hri] at hi; cases hi; exact hex ⟨i, p.1, p.2, hri, e⟩
    refine ⟨hA, fun hL s hds => ?_⟩
    have hallk : ∀ e ∈ o.after, Region.binds .any e = true → L.getD e.on false = true := hD k o (by rw [List.getElem?_toArray]; exact hr k o t ho) hL
    cases t with
    | some T => rw [(hJ.vals k o T s ho hds hL).1, hv k o T ho]
    | none =>
      obtain ⟨u, wk, hu, hbk, hf, hrun⟩ := hJ.pures k o s ho hds hL
      obtain ⟨v, hv1, hv2⟩ := hs k o ho wk hbk (fun p hp hdep => by
        obtain ⟨j, oj, T, vj, h1, h2, rfl⟩ := mem_factsOf l _ _ _ _ hp
        have hjk : j < k := by
          have := (List.getElem?_eq_some_iff.1 h1).1
          rw [List.length_take] at this; omega
        rw [Nat.zero_add] at hdep
        rw [List.getElem?_take, if_pos hjk] at h1 h2
        have hjL := depB_listed hD hdep (fun o' ho' => by rw [hr k o none ho] at ho'; cases ho'; exact hallk)
        have hallj : ∀ e ∈ oj.after, Region.binds .any e = true → L.getD e.on false = true := hD j oj (by rw [List.getElem?_toArray]; exact hr j oj _ h1) hjL
        have h3 := hf j oj T h1 hdep
        rw [args_same (ops := l.toArray) ((ih j hjk oj _ h1).1 hallj)] at h3
        rw [hv j oj T h1] at h2; cases h2
        rw [List.map_take, List.take_take, List.take_take, Nat.min_eq_left (by omega)]
        exact h3)
      rw [← eval_same (a := putAll ((r.map (·.1)).take k) (vs.take k) a0) (a' := a) (ops := l.toArray) (fun cs b => Region.noSelect_spec hsel k o cs b (by rw [List.getElem?_toArray]; exact hr k o none ho)) (hA hallk), hrun] at hv2
      cases hv2
      rw [hu, hv1]
theorem zip_at {l : List Oper} {ts : List (Option Tell)} {n : Nat} (hl : ts.length = n) {i : Nat} {o : Oper} {t : Option Tell} (h : ((l.take n).zip ts)[i]? = some (o, t)) : l[i]? = some o ∧ i < n := by
  have h1 := List.getElem?_zip_eq_some.1 h
  have hi : i < n := by
    have := (List.getElem?_eq_some_iff.1 h1.2).1
    omega
  rw [List.getElem?_take, if_pos hi] at h1
  exact ⟨h1.1, hi⟩
theorem wp_region_rg {P : Program} {rid : Nat} {Q : Exit → Act → World → Prop} {a : Act} {w : World} {l : List Oper} (n : Nat) (ts : List (Option Tell)) (hm : P.follows .mixedOrders = true) (hl : ts.length = n) (hB : rgB l n a.tmps.size = true) (hT : ∀ T, some T ∈ ts → T.Good)
    (h : rgWalk P l w (fun fs bs a' => ∀ w', Below w.heap.size w w' → (∀ p ∈ fs, p.2 w') → (bs.filterMap id).Nodup → (∀ b, some b ∈ bs → w.heap.size ≤ b ∧ b < w'.heap.size) → wpList P l.toArray Q (l.drop n) a' w') ((l.take n).zip ts) 0 [] [] a) : (Code.region rid l.toArray true).wp P Q a w := by
  simp only [rgB, Bool.and_eq_true, decide_eq_true_eq] at hB
  obtain ⟨⟨⟨⟨⟨⟨⟨hn, hsel⟩, hdown⟩, htail⟩, hdst⟩, hnd⟩, hlook⟩, hseq⟩ := hB
  obtain ⟨r, hr0⟩ : ∃ r, r = (l.take n).zip ts := ⟨_, rfl⟩
  rw [← hr0] at h
  have hrl : r.length = n := by rw [hr0, List.length_zip, List.length_take, hl]; omega
  have hmap : r.map (·.1) = l.take n := by rw [hr0, List.map_fst_zip]; rw [List.length_take, hl]; omega
  have hr : ∀ (i : Nat) (o : Oper) (t : Option Tell), r[i]? = some (o, t) → l[i]? = some o := fun i o t hi => by rw [hr0] at hi; exact (zip_at hl hi).1
  have hlt : ∀ (i : Nat) (o : Oper) (t : Option Tell), r[i]? = some (o, t) → i < n := fun i o t hi => by rw [hr0] at hi; exact (zip_at hl hi).2
  have hgood : ∀ (i : Nat) (o : Oper) (T : Tell), r[i]? = some (o, some T) → T.Good := fun i o T hi => by
    rw [hr0] at hi
    exact hT T (List.mem_of_getElem? (List.getElem?_zip_eq_some.1 hi).2)
  have hat : ∀ i, i < n → ∃ (o : Oper) (t : Option Tell), r[i]? = some (o, t) := fun i hi => ⟨_, _, (List.getElem?_eq_getElem (by omega) : r[i]? = some r[i])⟩
  have hdS : ∀ (k : Nat) (o : Oper), k < n → l[k]? = some o → ∃ d, o.dst = some d ∧ d < a.tmps.size ∧ o.guard = none := fun k o hk ho => by
    have h1 := List.all_eq_true.1 hdst o (List.mem_of_getElem? (i := k) (by rw [List.getElem?_take, if_pos hk]; exact ho))
    rw [Bool.and_eq_true] at h1
    cases hd : o.dst with
    | none => rw [hd] at h1; cases h1.2
    | some d => rw [hd] at h1; exact ⟨d, rfl, by simpa using h1.2, by simpa using h1.1⟩
  have huniq : ∀ (i j : Nat) (oi oj : Oper), i < n → j < n → l[i]? = some oi → l[j]? = some oj → oi.dst = oj.dst → i = j := fun i j oi oj hi hj hoi hoj e =>
    nodup_at hnd (x := oi.dst) (by rw [List.getElem?_map, List.getElem?_take, if_pos hi, hoi]; rfl) (by rw [List.getElem?_map, List.getElem?_take, if_pos hj, hoj, e]; rfl)
  have hops : ∀ k : Nat, l.toArray[k]? = l[k]? := fun k => List.getElem?_toArray
  have hlk : ∀ (k : Nat) (o : Oper) (t : Option Tell), r[k]? = some (o, t) → ∀ s ∈ o.looksAt l.toArray, ∀ (j : Nat) (oj : Oper) (tj : Option Tell), r[j]? = some (oj, tj) → oj.dst = some s → j < k ∧ ∃ e ∈ o.after, Region.binds .any e = true ∧ e.on = j := fun k o t ho s hs j oj tj hoj hdj => by
    have h1 := List.all_eq_true.1 hlook k (List.mem_range.2 (hlt k o t ho))
    rw [hr k o t ho] at h1
    have h2 := List.all_eq_true.1 (List.all_eq_true.1 h1 s hs) j (List.mem_range.2 (hlt j oj tj hoj))
    rw [hr j oj tj hoj] at h2
    simp only [hdj, beq_self_eq_true, Bool.not_true, Bool.false_or, Bool.and_eq_true, decide_eq_true_eq] at h2
    obtain ⟨e, he, h3⟩ := List.any_eq_true.1 h2.2
    rw [Bool.and_eq_true] at h3
    exact ⟨h2.1, e, Array.mem_toList_iff.1 he, h3.1, by simpa using h3.2⟩
  have hdn : ∀ k o, l.toArray[k]? = some o → ∀ e ∈ o.after, Region.binds .any e = true → e.on < k := fun k o ho e he hb => by
    rw [hops] at ho
    have hk : k < l.length := (List.getElem?_eq_some_iff.1 ho).1
    have h1 := List.all_eq_true.1 hdown k (List.mem_range.2 hk)
    rw [ho] at h1
    have h2 := List.all_eq_true.1 h1 e (Array.mem_toList_iff.2 he)
    rw [hb] at h2
    simpa using h2
  have hrd : ∀ (k : Nat) (o : Oper) (t : Option Tell), r[k]? = some (o, t) → ∃ d, o.dst = some d ∧ d < a.tmps.size := fun k o t ho => by
    obtain ⟨d, h1, h2, _⟩ := hdS k o (hlt k o t ho) (hr k o t ho)
    exact ⟨d, h1, h2⟩
  have hrn : ((r.map (·.1)).map (·.dst)).Nodup := by rw [hmap]; exact hnd
  refine wp_region_any hm ?_
  have key := wpAny_head (P := P) (ops := l.toArray) (Q' := Q) (n := n) (fun L a' w' => DC .any l.toArray L ∧ ∃ ξ, RJ P w l r a ξ L a' w')
    hdn
    (fun k o hk ho j hj => by
      rw [hops] at ho
      have hkl : k < l.length := (List.getElem?_eq_some_iff.1 ho).1
      have h1 := List.all_eq_true.1 htail k (List.mem_range.2 hkl)
      rw [ho, decide_eq_false (by omega), Bool.false_or] at h1
      have h2 := List.all_eq_true.1 h1 j (List.mem_range.2 hj)
      rcases (Bool.or_eq_true _ _).mp h2 with h2 | h2
      · obtain ⟨e, he, h3⟩ := List.any_eq_true.1 h2
        rw [Bool.and_eq_true] at h3
        exact ⟨e, Array.mem_toList_iff.1 he, h3.1, .inl (by simpa using h3.2)⟩
      · obtain ⟨e, he, h3⟩ := List.any_eq_true.1 h2
        rw [Bool.and_eq_true] at h3
        exact ⟨e, Array.mem_toList_iff.1 he, h3.1, .inr (by simpa using h3.2)⟩)
    (by simpa using hn)
    (fun L a' w' hs ⟨hD, ξ, hJ⟩ j hj hrdy => by
      obtain ⟨hun, oj, hoj, hall⟩ := mem_ready.1 hrdy
      have hD' := hD.step hrdy
      rw [hops] at hoj
      obtain ⟨d, hd, hds, hg⟩ := hdS j oj hj hoj
      have hjs : j < L.size := by rw [hs]; simp; omega
      have hsl : l.toArray.size = l.length := by simp
      have hunf : L.getD j false = false := by
        have := hun; rw [getD_lt hjs] at this ⊢; exact this
      have hset : ∀ i, (L.setIfInBounds j true).getD i false = (i == j || L.getD i false) := fun i => by
        by_cases hij : j = i
        · subst hij; simp [Array.getD_eq_getD_getElem?, hjs]
        · rw [getD_set_ne false hij]
          have : (i == j) = false := by simp; exact fun e => hij e.symm
          rw [this, Bool.false_or]
      obtain ⟨oj', tj, hrj⟩ := hat j hj
      have e0 := hr j oj' tj hrj
      rw [hoj] at e0; cases e0
      obtain ⟨vs, hvl, hv, _, hst⟩ := rg_path ξ r 0 [] [] a h (fun i o T hi => by rw [Nat.zero_add]; exact hJ.ok i o T hi)
      simp only [Nat.zero_add, List.nil_append] at hv hst
      have hvl' : vs.length = r.length := hvl
      have hag := rg_agree hr hsel hrn hrd hlk hD hJ hvl' hv (fun i o hi w1 hb ht => hst i o none hi w1 hb ht)
      have hA := (hag j oj tj hrj).1 hall
      have hsame := eval_same (a := putAll ((r.map (·.1)).take j) (vs.take j) a) (a' := a') (ops := l.toArray) (o := oj) (fun cs b => Region.noSelect_spec hsel j oj cs b (by rw [hops]; exact hoj)) hA
      have hargs := args_same (ops := l.toArray) hA
      have hdone : ∀ i, depB l j i = true → L.getD i false = true := fun i hi => depB_listed hD hi (fun o ho => by rw [hoj] at ho; cases ho; exact hall)
      have htold : told l j (factsOf l (r.take j) 0 (vs.take j) a) w' := fun p hp hdep => by
        obtain ⟨i, oi, T, vi, h1, h2, rfl⟩ := mem_factsOf l _ _ _ _ hp
        have hij : i < j := by
          have := (List.getElem?_eq_some_iff.1 h1).1
          rw [List.length_take] at this; omega
        rw [Nat.zero_add] at hdep
        rw [List.getElem?_take, if_pos hij] at h1 h2
        have hiL := hdone i hdep
        obtain ⟨di, hdi, _⟩ := hrd i oi _ h1
        have hh := (hJ.vals i oi T di h1 hdi hiL).2.1
        have halli : ∀ e ∈ oi.after, Region.binds .any e = true → L.getD e.on false = true := hD i oi (by rw [hops]; exact hr i oi _ h1) hiL
        rw [args_same (ops := l.toArray) ((hag i oi _ h1).1 halli)] at hh
        rw [hv i oi T h1] at h2; cases h2
        rw [List.map_take, List.take_take, List.take_take, Nat.min_eq_left (by omega)]
        exact hh
      have hkeep : ∀ (i : Nat) (oi : Oper) (ti : Option Tell) (v : Value), r[i]? = some (oi, ti) → L.getD i false = true → ∀ s ∈ oi.looksAt l.toArray, (a'.put oj.dst v).tmps[s]? = a'.tmps[s]? := fun i oi ti v hi hL s hsl => by
        refine put_tmps_ne fun e => ?_
        obtain ⟨_, e1, he, hb, hon⟩ := hlk i oi ti hi s hsl j oj tj hrj e
        have h1 := hD i oi (by rw [hops]; exact hr i oi ti hi) hL e1 he hb
        rw [hon, hunf] at h1
        cases h1
      have hslot : ∀ (i : Nat) (oi : Oper) (ti : Option Tell) (s : Nat) (v : Value), r[i]? = some (oi, ti) → i ≠ j → oi.dst = some s → (a'.put oj.dst v).tmps[s]? = a'.tmps[s]? := fun i oi ti s v hi hne hdi =>
        put_tmps_ne fun e => hne (huniq i j oi oj (hlt i oi ti hi) hj (hr i oi ti hi) hoj (hdi.trans e.symm))
      have hexec := hst j oj tj hrj w' hJ.below (by simpa using htold)
      unfold okStep
      rw [hops, hoj]
      have hw : Region.wanted oj (yielded l.toArray a'.tmps) = true := by unfold Region.wanted; rw [hg]
      simp only [hw, if_true]
      cases tj with
      | none =>
        obtain ⟨u, hu1, hu2⟩ := hexec
        rw [← hsame] at hu2
        unfold okOp
        rw [hu2]
        refine ⟨hD', ξ, ⟨hJ.below, (put_defers _ _ _).trans hJ.defers, (put_size _ _ _).trans hJ.size, fun s hs' => ?_, hJ.ok, fun i o T s hi hdi hL => ?_, fun i i' oi oi' T T' b hi hi' hne hL hL' => ?_, fun i o s hi hdi hL => ?_⟩⟩
        · rw [put_tmps_ne (hs' oj (by rw [hmap]; exact List.mem_of_getElem? (i := j) (by rw [List.getElem?_take, if_pos hj]; exact hoj)))]
          exact hJ.other s hs'
        · rw [hset] at hL
          have hne : i ≠ j := fun e => by subst e; rw [hrj] at hi; cases hi
          have : (i == j) = false := by simpa using hne
          rw [this, Bool.false_or] at hL
          obtain ⟨q1, q2, q3⟩ := hJ.vals i o T s hi hdi hL
          refine ⟨(hslot i o _ s u hi hne hdi).trans q1, ?_, q3⟩
          rw [args_same (ops := l.toArray) (hkeep i o _ u hi hL)]
          exact q2
        · rw [hset] at hL hL'
          have n1 : i ≠ j := fun e => by subst e; rw [hrj] at hi; cases hi
          have n2 : i' ≠ j := fun e => by subst e; rw [hrj] at hi'; cases hi'
          have e1 : (i == j) = false := by simpa using n1
          have e2 : (i' == j) = false := by simpa using n2
          rw [e1, Bool.false_or] at hL
          rw [e2, Bool.false_or] at hL'
          exact hJ.owns i i' oi oi' T T' b hi hi' hne hL hL'
        · by_cases hij : i = j
          · subst hij
            rw [hrj] at hi
            simp only [Option.some.injEq, Prod.mk.injEq] at hi
            obtain ⟨rfl, _⟩ := hi
            rw [hd] at hdi
            cases hdi
            have hself : ∀ s ∈ oj.looksAt l.toArray, (a'.put oj.dst u).tmps[s]? = a'.tmps[s]? := fun s hsl => put_tmps_ne fun e => by
              have := (hlk i oj none hrj s hsl i oj none hrj e).1
              omega
            refine ⟨u, w', by rw [hd]; simp [Act.put, hJ.size, hds], hJ.below, fun i2 o2 T2 h2 hdep => ?_, ?_⟩
            · obtain ⟨d2, hd2, _⟩ := hrd i2 o2 _ h2
              have hL2 := hdone i2 hdep
              rw [args_same (ops := l.toArray) (hkeep i2 o2 _ u h2 hL2)]
              exact (hJ.vals i2 o2 T2 d2 h2 hd2 hL2).2.1
            · rw [eval_same (a := a') (ops := l.toArray) (fun cs b => Region.noSelect_spec hsel i oj cs b (by rw [hops]; exact hoj)) hself]
              exact hu2
          · rw [hset] at hL
            have : (i == j) = false := by simpa using hij
            rw [this, Bool.false_or] at hL
            obtain ⟨x, wk, q1, q2, q3, q4⟩ := hJ.pures i o s hi hdi hL
            refine ⟨x, wk, (hslot i o _ s u hi hij hdi).trans q1, q2, fun i2 o2 T2 h2 hdep => ?_, ?_⟩
            · have hL2 : L.getD i2 false = true := depB_listed hD hdep (fun o' ho' => by
                rw [hr i o _ hi] at ho'; cases ho'
                exact hD i o (by rw [hops]; exact hr i o _ hi) hL)
              rw [args_same (ops := l.toArray) (hkeep i2 o2 _ u h2 hL2)]
              exact q3 i2 o2 T2 h2 hdep
            · rw [eval_same (a := a') (ops := l.toArray) (fun cs b => Region.noSelect_spec hsel i o cs b (by rw [hops]; exact hr i o _ hi)) (hkeep i o _ u hi hL)]
              exact q4
      | some T =>
        have hexec' : okOp P oj (putAll ((r.map (·.1)).take j) (vs.take j) a) w' (Telling T (argsOf l.toArray oj (putAll ((r.map (·.1)).take j) (vs.take j) a)) w') := hexec
        have hexec2 : okOp P oj a' w' (Telling T (argsOf l.toArray oj a') w') := by
          rw [hargs]
          unfold okOp at hexec' ⊢
          rw [hsame]
          exact hexec'
        refine okOp_mono (fun u w2 ⟨p1, p2, p3, p4⟩ => ?_) hexec2
        have hbb : Below w.heap.size w w2 := hJ.below.trans (p3.mono hJ.below.size)
        have hself : ∀ s ∈ oj.looksAt l.toArray, (a'.put oj.dst u).tmps[s]? = a'.tmps[s]? := fun s hsl => put_tmps_ne fun e => by
          have := (hlk j oj _ hrj s hsl j oj _ hrj e).1
          omega
        have hz : ∀ i, i ≠ j → (if i = j then u else ξ i) = ξ i := fun i hne => if_neg hne
        have hzj : (if j = j then u else ξ j) = u := if_pos rfl
        refine ⟨hD', (fun i => if i = j then u else ξ i), ⟨hbb, (put_defers _ _ _).trans hJ.defers, (put_size _ _ _).trans hJ.size, fun s hs' => ?_, fun i o T' hi => ?_, fun i o T' s hi hdi hL => ?_, fun i i' oi oi' Ti Ti' b hi hi' hne hL hL' hb hb' => ?_, fun i o s hi hdi hL => ?_⟩⟩
        · rw [put_tmps_ne (hs' oj (by rw [hmap]; exact List.mem_of_getElem? (i := j) (by rw [List.getElem?_take, if_pos hj]; exact hoj)))]
          exact hJ.other s hs'
        · by_cases hij : i = j
          · subst hij
            rw [hrj] at hi
            simp only [Option.some.injEq, Prod.mk.injEq] at hi
            obtain ⟨_, rfl⟩ := hi
            simp only [if_true]
            exact p1
          · simp only [if_neg hij]
            exact hJ.ok i o T' hi
        · by_cases hij : i = j
          · subst hij
            rw [hrj] at hi
            simp only [Option.some.injEq, Prod.mk.injEq] at hi
            obtain ⟨rfl, rfl⟩ := hi
            rw [hd] at hdi; cases hdi
            simp only [if_true]
            refine ⟨by rw [hd]; simp [Act.put, hJ.size, hds], by rw [args_same (ops := l.toArray) hself]; exact p2, fun b hb => ?_⟩
            have := p4 b hb
            have := hJ.below.size
            omega
          · rw [hset] at hL
            have : (i == j) = false := by simpa using hij
            rw [this, Bool.false_or] at hL
            simp only [if_neg hij]
            obtain ⟨q1, q2, q3⟩ := hJ.vals i o T' s hi hdi hL
            refine ⟨(hslot i o _ s u hi hij hdi).trans q1, ?_, fun b hb => ?_⟩
            · rw [args_same (ops := l.toArray) (hkeep i o _ u hi hL)]
              exact (hgood i o T' hi).stays _ _ _ _ q2 p3
            · have := q3 b hb
              have := p3.size
              omega
        · rw [hset] at hL hL'
          have hown : ∀ (i : Nat) (oi : Oper) (Ti : Tell) (b : Nat), r[i]? = some (oi, some Ti) → i ≠ j → L.getD i false = true → Ti.own (ξ i) = some b → b < w'.heap.size := fun i oi Ti b hi hne hL hb => by
            obtain ⟨di, hdi, _⟩ := hrd i oi _ hi
            exact ((hJ.vals i oi Ti di hi hdi hL).2.2 b hb).2
          by_cases h1 : i = j
          · have h2 : i' ≠ j := fun e => hne (h1.trans e.symm)
            have e2 : (i' == j) = false := by simpa using h2
            rw [e2, Bool.false_or] at hL'
            subst h1
            rw [hrj] at hi
            simp only [Option.some.injEq, Prod.mk.injEq] at hi
            obtain ⟨rfl, rfl⟩ := hi
            simp only [if_true] at hb
            simp only [if_neg h2] at hb'
            have := p4 b hb
            have := hown i' oi' Ti' b hi' h2 hL' hb'
            omega
          · have e1 : (i == j) = false := by simpa using h1
            rw [e1, Bool.false_or] at hL
            simp only [if_neg h1] at hb
            by_cases h2 : i' = j
            · subst h2
              rw [hrj] at hi'
              simp only [Option.some.injEq, Prod.mk.injEq] at hi'
              obtain ⟨rfl, rfl⟩ := hi'
              simp only [if_true] at hb'
              have := p4 b hb'
              have := hown i oi Ti b hi h1 hL hb
              omega
            · have e2 : (i' == j) = false := by simpa using h2
              rw [e2, Bool.false_or] at hL'
              simp only [if_neg h2] at hb'
              exact hJ.owns i i' oi oi' Ti Ti' b hi hi' hne hL hL' hb hb'
        · have hij : i ≠ j := fun e => by subst e; rw [hrj] at hi; cases hi
          rw [hset] at hL
          have : (i == j) = false := by simpa using hij
          rw [this, Bool.false_or] at hL
          obtain ⟨x, wk, q1, q2, q3, q4⟩ := hJ.pures i o s hi hdi hL
          refine ⟨x, wk, (hslot i o _ s u hi hij hdi).trans q1, q2, fun i2 o2 T2 h2 hdep => ?_, ?_⟩
          · have hL2 : L.getD i2 false = true := depB_listed hD hdep (fun o' ho' => by
              rw [hr i o _ hi] at ho'; cases ho'
              exact hD i o (by rw [hops]; exact hr i o _ hi) hL)
            have hne2 : i2 ≠ j := fun e => by subst e; rw [hunf] at hL2; cases hL2
            simp only [if_neg hne2]
            rw [args_same (ops := l.toArray) (hkeep i2 o2 _ u h2 hL2)]
            exact q3 i2 o2 T2 h2 hdep
          · rw [eval_same (a := a') (ops := l.toArray) (fun cs b => Region.noSelect_spec hsel i o cs b (by rw [hops]; exact hr i o _ hi)) (hkeep i o _ u hi hL)]
            exact q4)
    (fun L a' w' hs hall hnone ⟨hD, ξ, hJ⟩ => by
      have hsl : l.toArray.size = l.length := by simp
      rw [hsl] at hs hnone ⊢
      have hL : L = (List.replicate n true ++ List.replicate (l.length - n) false).toArray := by
        apply Array.ext
        · simp; omega
        · intro i h1 h2
          simp only [List.getElem_toArray]
          rcases Nat.lt_or_ge i n with hi | hi
          · rw [List.getElem_append_left (by simpa using hi)]
            have := hall i hi
            rw [getD_lt h1] at this
            simpa using this
          · rw [List.getElem_append_right (by simpa using hi)]
            have := hnone i hi (by omega)
            rw [getD_lt h1] at this
            simpa using this
      have hlen2 : (l.drop n).length = l.length - n := List.length_drop
      rw [← hlen2]
      refine wpAny_of_seq (l.drop n) n L a' w' (fun j => by rw [List.getElem?_drop]; simp) (by rw [hlen2, hL]; exact hseq) ?_
      have hdone : ∀ i, i < n → L.getD i false = true := fun i hi => by
        have h1 := hall i hi
        have hi' : i < L.size := by omega
        rw [getD_lt hi'] at h1 ⊢; exact h1
      obtain ⟨vs, hvl, hv, hK, hst⟩ := rg_path ξ r 0 [] [] a h (fun i o T hi => by rw [Nat.zero_add]; exact hJ.ok i o T hi)
      simp only [Nat.zero_add, List.nil_append] at hv hst hK
      have hag := rg_agree hr hsel hrn hrd hlk hD hJ hvl hv (fun i o hi w1 hb ht => hst i o none hi w1 hb ht)
      have ha : a' = putAll (r.map (·.1)) vs a := by
        have htm : a'.tmps = (putAll (r.map (·.1)) vs a).tmps := by
          apply Array.ext_getElem?
          intro s
          by_cases hex : ∃ (i : Nat) (oi : Oper) (ti : Option Tell), r[i]? = some (oi, ti) ∧ oi.dst = some s
          · obtain ⟨i, oi, ti, hoi, hdi⟩ := hex
            rw [(hag i oi ti hoi).2 (hdone i (hlt i oi ti hoi)) s hdi]
            have hil : i < r.length := (List.getElem?_eq_some_iff.1 hoi).1
            obtain ⟨vi, hvi⟩ : ∃ v, vs[i]? = some v := ⟨vs[i]'(by omega), List.getElem?_eq_getElem _⟩
            obtain ⟨d, hd, hds⟩ := hrd i oi ti hoi
            rw [hdi] at hd; cases hd
            rw [hvi]
            exact (putAll_at _ _ a s i oi vi hrn (by rw [List.getElem?_map, hoi]; rfl) hdi hvi hds).symm
          · have hno : ∀ o' ∈ r.map (·.1), o'.dst ≠ some s := fun o' ho' e => by
              obtain ⟨i, hi⟩ := List.getElem?_of_mem ho'
              rw [List.getElem?_map] at hi
              cases hri : r[i]? with
              | none => rw [hri] at hi; cases hi
              | some p => rw [hri] at hi; cases hi; exact hex ⟨i, p.1, p.2, hri, e⟩
            rw [hJ.other s hno, putAll_other _ _ _ _ hno]
        have hdf : a'.defers = (putAll (r.map (·.1)) vs a).defers := by rw [putAll_defers, hJ.defers]
        cases a'
        generalize putAll (r.map (·.1)) vs a = y at htm hdf
        cases y
        simp only at htm hdf
        rw [htm, hdf]
      rw [ha]
      refine hK w' hJ.below (fun p hp => ?_) (nodup_ownsOf r vs fun i j oi oj Ti Tj vi vj b h1 h2 h3 h4 hne e1 e2 => ?_) (fun b hb => ?_)
      · obtain ⟨i, oi, T, vi, h1, h2, rfl⟩ := mem_factsOf l _ _ _ _ hp
        have hiL := hdone i (hlt i oi _ h1)
        obtain ⟨di, hdi, _⟩ := hrd i oi _ h1
        have hh := (hJ.vals i oi T di h1 hdi hiL).2.1
        have halli : ∀ e ∈ oi.after, Region.binds .any e = true → L.getD e.on false = true := hD i oi (by rw [hops]; exact hr i oi _ h1) hiL
        rw [args_same (ops := l.toArray) ((hag i oi _ h1).1 halli)] at hh
        rw [hv i oi T h1] at h2; cases h2
        exact hh
      · rw [hv i oi Ti h1] at h3; cases h3
        rw [hv j oj Tj h2] at h4; cases h4
        exact hJ.owns i j oi oj Ti Tj b h1 h2 hne (hdone i (hlt i oi _ h1)) (hdone j (hlt j oj _ h2)) e1 e2
      · obtain ⟨i, oi, T, vi, h1, h2, h3⟩ := mem_ownsOf _ _ hb
        obtain ⟨di, hdi, _⟩ := hrd i oi _ h1
        rw [hv i oi T h1] at h2; cases h2
        exact (hJ.vals i oi T di h1 hdi (hdone i (hlt i oi _ h1))).2.2 b h3.symm)
  have hD0 : DC .any l.toArray (Array.replicate l.toArray.size false) := fun k o _ hk => by
    rw [Array.getD_eq_getD_getElem?] at hk
    rcases Nat.lt_or_ge k l.toArray.size with h' | h'
    · rw [Array.getElem?_eq_getElem (by simpa using h')] at hk
      simp at hk
    · rw [Array.getElem?_eq_none (by simpa using h')] at hk
      simp at hk
  have hno : ∀ i, (Array.replicate l.toArray.size false).getD i false = true → False := fun i hi => by
    rw [Array.getD_eq_getD_getElem?] at hi
    rcases Nat.lt_or_ge i l.toArray.size with h' | h'
    · rw [Array.getElem?_eq_getElem (by simpa using h')] at hi
      simp at hi
    · rw [Array.getElem?_eq_none (by simpa using h')] at hi
      simp at hi
  obtain ⟨ξ0, hξ0⟩ : ∃ ξ : Nat → Value, ∀ (i : Nat) (o : Oper) (T : Tell), r[i]? = some (o, some T) → T.ok (ξ i) := by
    have : Nonempty Value := ⟨undef⟩
    refine ⟨fun i => match r[i]? with | some (_, some T) => Classical.epsilon T.ok | _ => undef, fun i o T hi => ?_⟩
    have hg := (hgood i o T hi).some
    simp only [hi]
    exact Classical.epsilon_spec hg
  have hfin := key n (Array.replicate l.toArray.size false) a { w with drawn := w.drawn + 1 } hD0 (by simp) (fun k hk hks => by rw [getD_lt (by simpa using hks)]; simp)
    (by
      rw [List.filter_eq_self.2 (fun i hi => by
        rw [List.mem_range] at hi
        rw [getD_lt (by simp; omega)]; simp)]
      simp)
    ⟨hD0, ξ0, ⟨⟨rfl, rfl, rfl, Nat.le_refl _, fun _ _ => rfl⟩, rfl, rfl, fun _ _ => rfl, hξ0, fun i o T s _ _ hL => (hno i hL).elim, fun i i' oi oi' T T' b _ _ _ hL => (hno i hL).elim, fun i o s _ _ hL => (hno i hL).elim⟩⟩
  rw [show n + (l.toArray.size - n) = l.toArray.size by simp; omega] at hfin
  exact hfin
end Go.Proofs.YtbcpmnnlhdgbhaaGreatDoor
