/- The texts Fun2 Fun3 BK of this work, merged by wip/merge.py. No conditions. -/
import Derived.Test.YtbcpmnnlhdgbhaaGreatDoorQG07
import Derived.StillTail
import Derived.Test.YtbcpmnnlhdgbhaaGreatDoorQG00
import Derived.Deep.MidRow
import Derived.Test.YtbcpmnnlhdgbhaaGreatDoorProg
import Derived.Test.YtbcpmnnlhdgbhaaGreatDoorQG04
import Derived.BigQuiet
import Derived.Deep.DeepMust
import Derived.Shelf.Bits.Mul64
namespace Go.Proofs.YtbcpmnnlhdgbhaaGreatDoor
open Go.RowKit
/-- What the kernel is asked of such a region: nv operations that look or call, na new blocks, then stores. -/
def funB (l : List Oper) (nv na : Nat) (slots : List Nat) (size : Nat) : Bool :=
  decide (nv + na ≤ l.length) && Region.noSelect l.toArray &&
  ((List.range l.length).all fun k => match l[k]? with | none => true | some o => o.after.toList.all fun e => !Region.binds .any e || decide (e.on < k)) &&
  ((List.range l.length).all fun k => decide (k < nv + na) || match l[k]? with | none => true | some o => (List.range (nv + na)).all fun j => (o.after.toList.any fun e => Region.binds .any e && e.on == j) || o.after.toList.any fun e => Region.binds .any e && reachB .any l.toArray l.length j e.on) &&
  ((l.take (nv + na)).all fun o => o.guard.isNone && match o.dst with | none => false | some d => decide (d < size)) &&
  decide (((l.take (nv + na)).map (·.dst)).Nodup) &&
  decide (((l.drop nv).take na).map (·.dst) = slots.map some) && decide (slots.length = na) &&
  ((List.range nv).all fun k => match l[k]? with | none => true | some o => (o.looksAt l.toArray).all fun s => (List.range (nv + na)).all fun j => match l[j]? with | none => true | some oj => !(oj.dst == some s) || (decide (j < k) && o.after.toList.any fun e => Region.binds .any e && e.on == j)) &&
  Region.seqB .any l.toArray (l.length - (nv + na)) (nv + na) (List.replicate (nv + na) true ++ List.replicate (l.length - (nv + na)) false).toArray
theorem getD_lt {L : Array Bool} {k : Nat} {b : Bool} (hk : k < L.size) : L.getD k b = L[k] := by
  simp [Array.getD_eq_getD_getElem?, hk]
theorem eval_same {a a' : Act} {o : Oper} {ops : Array Oper} (hs : ∀ cs b, o.op ≠ .select cs b) (h : ∀ s ∈ o.looksAt ops, a'.tmps[s]? = a.tmps[s]?) : execOp a'.eval o = execOp a.eval o :=
  execOp_congr o hs fun x hx => by
    cases x with
    | tmp s =>
      have := h s (List.mem_append_left _ (List.mem_filterMap.2 ⟨.tmp s, by simpa using hx, rfl⟩))
      simp only [Act.eval, Array.getD_eq_getD_getElem?, this]
    | _ => rfl
theorem putNew_defers : ∀ (al : List (Nat × Array Value × TypeId)) (bs : List Nat) (a : Act), (putNew al bs a).defers = a.defers
  | [], _, _ => by cases ‹List Nat› <;> rfl
  | _ :: _, [], _ => rfl
  | x :: r, b :: bs, a => by rw [putNew, putNew_defers r bs, put_defers]
theorem putNew_other : ∀ (al : List (Nat × Array Value × TypeId)) (bs : List Nat) (a : Act) (s : Nat), (∀ x ∈ al, x.1 ≠ s) → (putNew al bs a).tmps[s]? = a.tmps[s]?
  | [], _, _, _, _ => by cases ‹List Nat› <;> rfl
  | _ :: _, [], _, _, _ => rfl
  | x :: r, b :: bs, a, s, h => by
    rw [putNew, putNew_other r bs _ s (fun y hy => h y (List.mem_cons_of_mem _ hy)), put_tmps_ne (fun e => h x List.mem_cons_self (Option.some.inj e))]
theorem putNew_at : ∀ (al : List (Nat × Array Value × TypeId)) (bs : List Nat) (a : Act) (i : Nat) (x : Nat × Array Value × TypeId) (b : Nat), (al.map (·.1)).Nodup → al[i]? = some x → bs[i]? = some b → x.1 < a.tmps.size → (putNew al bs a).tmps[x.1]? = some (.pointer (some ⟨b, 0, none⟩))
  | [], _, _, _, _, _, _, h, _, _ => by simp at h
  | _ :: _, [], _, _, _, _, _, _, h, _ => by simp at h
  | y :: r, c :: bs, a, 0, x, b, hnd, hx, hb, hs => by
    simp only [List.getElem?_cons_zero, Option.some.injEq] at hx hb
    subst hx hb
    rw [List.map_cons, List.nodup_cons] at hnd
    rw [putNew, putNew_other r bs _ _ (fun z hz e => hnd.1 (List.mem_map.2 ⟨z, hz, e⟩))]
    simp [Act.put, hs]
  | y :: r, c :: bs, a, i + 1, x, b, hnd, hx, hb, hs => by
    rw [List.map_cons, List.nodup_cons] at hnd
    simp only [List.getElem?_cons_succ] at hx hb
    rw [putNew]
    exact putNew_at r bs _ i x b hnd.2 hx hb (by rw [put_size]; exact hs)
/-- What holds on the way: L has come up. -/
structure FJ (w0 : World) (l : List Oper) (nv : Nat) (al : List (Nat × Array Value × TypeId)) (vs : List Value) (a0 : Act) (L : Array Bool) (a : Act) (w : World) : Prop where
  below : Below w0.heap.size w0 w
  defers : a.defers = a0.defers
  size : a.tmps.size = a0.tmps.size
  other : ∀ s, (∀ o ∈ l.take (nv + al.length), o.dst ≠ some s) → a.tmps[s]? = a0.tmps[s]?
  vals : ∀ k o s v, k < nv → l[k]? = some o → o.dst = some s → vs[k]? = some v → L.getD k true = true → a.tmps[s]? = some v
  news : ∃ β : Nat → Nat, (∀ i x, al[i]? = some x → L.getD (nv + i) true = true → a.tmps[x.1]? = some (.pointer (some ⟨β i, 0, none⟩)) ∧ w0.heap.size ≤ β i ∧ w.heap[β i]? = some (.cells x.2.1 x.2.2 (0, 0))) ∧
    (∀ i j, i < al.length → j < al.length → L.getD (nv + i) true = true → L.getD (nv + j) true = true → i ≠ j → β i ≠ β j)
theorem getD_setL {L : Array Bool} {j i : Nat} (hj : j < L.size) : (L.setIfInBounds j true).getD i true = (i == j || L.getD i true) := by
  by_cases hij : j = i
  · subst hij; simp [Array.getD_eq_getD_getElem?, hj]
  · rw [getD_set_ne true hij]
    have : (i == j) = false := by simp; exact fun e => hij e.symm
    rw [this, Bool.false_or]
theorem lt_of_some {w : World} {b : Nat} {o : Obj} (h : w.heap[b]? = some o) : b < w.heap.size := by
  rcases Nat.lt_or_ge b w.heap.size with h' | h'
  · exact h'
  · rw [Array.getElem?_eq_none h'] at h; cases h
theorem nodup_at {l : List (Option Tmp)} (h : l.Nodup) {i j : Nat} {x : Option Tmp} (hi : l[i]? = some x) (hj : l[j]? = some x) : i = j := by
  obtain ⟨h1, e1⟩ := List.getElem?_eq_some_iff.1 hi
  obtain ⟨h2, e2⟩ := List.getElem?_eq_some_iff.1 hj
  have hp := List.pairwise_iff_getElem.1 h
  rcases Nat.lt_trichotomy i j with h3 | h3 | h3
  · exact absurd (e1.trans e2.symm) (hp i j h1 h2 h3)
  · exact h3
  · exact absurd (e2.trans e1.symm) (hp j i h2 h1 h3)
theorem wp_region_fun {P : Program} {id : Nat} {Q : Exit → Act → World → Prop} {a : Act} {w : World} {l : List Oper} (nv : Nat) (al : List (Nat × Array Value × TypeId)) (hm : P.follows .mixedOrders = true)
    (hB : funB l nv al.length (al.map (·.1)) a.tmps.size = true)
    (hA : ∀ i x o, al[i]? = some x → l[nv + i]? = some o → ∀ a w, okOp P o a w (fun u w' => u = .pointer (some ⟨w.heap.size, 0, none⟩) ∧ w' = w.alloc (.cells x.2.1 x.2.2)))
    (h : funWalk P w (fun a' => ∀ w', Below w.heap.size w w' → freshQ w w' (fun a'' => wpList P l.toArray Q (l.drop (nv + al.length)) a'' w') al [] a') (l.take nv) a) : (Code.region id l.toArray true).wp P Q a w := by
  obtain ⟨vs, hvl, hK, hv⟩ := funWalk_vals _ _ h
  simp only [funB, Bool.and_eq_true, decide_eq_true_eq] at hB
  obtain ⟨⟨⟨⟨⟨⟨⟨⟨⟨hlen, hsel⟩, hdown⟩, htail⟩, hdst⟩, hnd⟩, hslots⟩, hna⟩, hlook⟩, hseq⟩ := hB
  have hmapsome : ∀ (r : List Nat), (r.map some).Nodup → r.Nodup := fun r hr => by
    induction r with
    | nil => exact List.nodup_nil
    | cons x r ih =>
      rw [List.map_cons, List.nodup_cons] at hr
      rw [List.nodup_cons]
      exact ⟨fun hx => hr.1 (List.mem_map.2 ⟨x, hx, rfl⟩), ih hr.2⟩
  have hn : nv + al.length ≤ l.length := hlen
  have hvs : vs.length = nv := by rw [hvl, List.length_take]; omega
  have hdA : ∀ i (x : Nat × Array Value × TypeId), al[i]? = some x → ∃ o, l[nv + i]? = some o ∧ o.dst = some x.1 := fun i x hx => by
    have hi : i < al.length := (List.getElem?_eq_some_iff.1 hx).1
    refine ⟨l[nv + i]'(by omega), List.getElem?_eq_getElem _, ?_⟩
    have h1 := congrArg (fun t => t[i]?) hslots
    simp only [List.getElem?_map, List.getElem?_take, hi, if_true, List.getElem?_drop, hx, Option.map_some] at h1
    rw [List.getElem?_eq_getElem (by omega)] at h1
    simpa using h1
  have hdS : ∀ k o, k < nv + al.length → l[k]? = some o → ∃ d, o.dst = some d ∧ d < a.tmps.size ∧ o.guard = none := fun k o hk ho => by
    have h1 := List.all_eq_true.1 hdst o (List.mem_of_getElem? (i := k) (by rw [List.getElem?_take, if_pos hk]; exact ho))
    rw [Bool.and_eq_true] at h1
    cases hd : o.dst with
    | none => rw [hd] at h1; cases h1.2
    | some d => rw [hd] at h1; exact ⟨d, rfl, by simpa using h1.2, by simpa using h1.1⟩
  have huniq : ∀ i j oi oj, i < nv + al.length → j < nv + al.length → l[i]? = some oi → l[j]? = some oj → oi.dst = oj.dst → i = j := fun i j oi oj hi hj hoi hoj e =>
    nodup_at hnd (x := oi.dst) (by rw [List.getElem?_map, List.getElem?_take, if_pos hi, hoi]; rfl) (by rw [List.getElem?_map, List.getElem?_take, if_pos hj, hoj, e]; rfl)
  have hops : ∀ k : Nat, l.toArray[k]? = l[k]? := fun k => List.getElem?_toArray
  refine wp_region_any hm ?_
  have key := wpAny_head (P := P) (ops := l.toArray) (Q' := Q) (n := nv + al.length) (FJ w l nv al vs a)
    (fun k o ho e he hb => by
      rw [hops] at ho
      have hk : k < l.length := (List.getElem?_eq_some_iff.1 ho).1
      have h1 := List.all_eq_true.1 hdown k (List.mem_range.2 hk)
      rw [ho] at h1
      have h2 := List.all_eq_true.1 h1 e (Array.mem_toList_iff.2 he)
      rw [hb] at h2
      simpa using h2)
    (fun k o hk ho j hj => by
      rw [hops] at ho
      have hkl : k < l.length := (List.getElem?_eq_some_iff.1 ho).1
      have h1 := List.all_eq_true.1 htail k (List.mem_range.2 hkl)
      rw [ho, decide_eq_false (by omega), Bool.false_or] at h1
      have h2 := List.all_eq_true.1 h1 j (List.mem_range.2 hj)
      rcases (Bool.or_eq_true _ _).mp h2 with h2 | h2
      · obtain ⟨e, he, h3⟩ := List.any_eq_true.1 h2
        rw [Bool.and_eq_true] at h3
        exact ⟨e, Array.mem_toList_iff.1 he, h3.1, .inl (by simpa using h3.2)⟩
      · obtain ⟨e, he, h3⟩ := List.any_eq_true.1 h2
        rw [Bool.and_eq_true] at h3
        exact ⟨e, Array.mem_toList_iff.1 he, h3.1, .inr (by simpa using h3.2)⟩)
    (by simpa using hn)
    (fun L a' w' hs hJ j hj hr => by
      obtain ⟨hun, oj, hoj, hall⟩ := mem_ready.1 hr
      rw [hops] at hoj
      obtain ⟨d, hd, hds, hg⟩ := hdS j oj hj hoj
      have hjs : j < L.size := by rw [hs]; simp; omega
      have hset : ∀ i, (L.setIfInBounds j true).getD i true = (i == j || L.getD i true) := fun i => getD_setL hjs
      unfold okStep
      rw [hops, hoj]
      have hw : Region.wanted oj (yielded l.toArray a'.tmps) = true := by unfold Region.wanted; rw [hg]
      simp only [hw, if_true]
      rcases Nat.lt_or_ge j nv with hjv | hjv
      · obtain ⟨v, hvj⟩ : ∃ v, vs[j]? = some v := ⟨vs[j]'(by omega), List.getElem?_eq_getElem _⟩
        have h1 := hv j oj v (by rw [List.getElem?_take, if_pos hjv]; exact hoj) hvj w' hJ.below
        have hsame : execOp a'.eval oj = execOp (putAll ((l.take nv).take j) (vs.take j) a).eval oj := by
          refine eval_same (ops := l.toArray) (fun cs b => Region.noSelect_spec hsel j oj cs b (by rw [hops]; exact hoj)) fun s hsl => ?_
          have h2 := List.all_eq_true.1 hlook j (List.mem_range.2 hjv)
          rw [hoj] at h2
          have h3 := List.all_eq_true.1 h2 s hsl
          by_cases hex : ∃ i oi, i < nv + al.length ∧ l[i]? = some oi ∧ oi.dst = some s
          · obtain ⟨i, oi, hi, hoi, hdi⟩ := hex
            have h4 := List.all_eq_true.1 h3 i (List.mem_range.2 hi)
            rw [hoi] at h4
            simp only [hdi, beq_self_eq_true, Bool.not_true, Bool.false_or, Bool.and_eq_true, decide_eq_true_eq] at h4
            obtain ⟨hij, hany⟩ := h4
            obtain ⟨e, he, h5⟩ := List.any_eq_true.1 hany
            rw [Bool.and_eq_true] at h5
            have h6 := hall e (Array.mem_toList_iff.1 he) h5.1
            have h7 : e.on = i := by simpa using h5.2
            rw [h7] at h6
            have h8 : L.getD i true = true := by
              have hi' : i < L.size := by omega
              rw [getD_lt hi'] at h6 ⊢; exact h6
            obtain ⟨vi, hvi⟩ : ∃ v, vs[i]? = some v := ⟨vs[i]'(by omega), List.getElem?_eq_getElem _⟩
            rw [hJ.vals i oi s vi (by omega) hoi hdi hvi h8]
            obtain ⟨_, hd2, hds2, _⟩ := hdS i oi hi hoi
            refine (putAll_at _ _ a s i oi vi ?_ (by rw [List.getElem?_take, if_pos hij, List.getElem?_take, if_pos (by omega)]; exact hoi) hdi (by rw [List.getElem?_take, if_pos hij]; exact hvi) (by rw [hdi] at hd2; cases hd2; exact hds2)).symm
            have e1 : (l.take nv).take j = (l.take (nv + al.length)).take j := by rw [List.take_take, List.take_take, Nat.min_eq_left (by omega), Nat.min_eq_left (by omega)]
            rw [e1, List.map_take]
            exact hnd.sublist (List.take_sublist _ _)
          · have hno : ∀ o ∈ l.take (nv + al.length), o.dst ≠ some s := fun o ho e => by
              obtain ⟨i, hi⟩ := List.getElem?_of_mem ho
              have hi1 : i < nv + al.length := by
                have := (List.getElem?_eq_some_iff.1 hi).1
                rw [List.length_take] at this; omega
              rw [List.getElem?_take, if_pos hi1] at hi
              exact hex ⟨i, o, hi1, hi, e⟩
            rw [hJ.other s hno, putAll_other]
            intro o ho
            refine hno o ?_
            have e1 : (l.take nv).take j = (l.take (nv + al.length)).take j := by rw [List.take_take, List.take_take, Nat.min_eq_left (by omega), Nat.min_eq_left (by omega)]
            rw [e1] at ho
            exact List.mem_of_mem_take ho
        have h1' : okOp P oj a' w' (fun u w'' => u = v ∧ Below w'.heap.size w' w'') := by
          unfold okOp at h1 ⊢; rw [hsame]; exact h1
        refine okOp_mono (fun u w'' ⟨hu, hb⟩ => ?_) h1'
        subst hu
        refine ⟨hJ.below.trans (hb.mono hJ.below.size), (put_defers _ _ _).trans hJ.defers, (put_size _ _ _).trans hJ.size, fun s hs' => ?_, fun k o s v' hk ho hds' hv' hL => ?_, ?_⟩
        · rw [put_tmps_ne (hs' oj (List.mem_of_getElem? (i := j) (by rw [List.getElem?_take, if_pos hj]; exact hoj)))]
          exact hJ.other s hs'
        · rw [hset k] at hL
          by_cases hkj : k = j
          · subst hkj
            rw [hoj] at ho; cases ho
            rw [hvj] at hv'; cases hv'
            rw [hds']
            have : s < a'.tmps.size := by rw [hJ.size]; rw [hd] at hds'; cases hds'; exact hds
            simp [Act.put, this]
          · have : (k == j) = false := by simpa using hkj
            rw [this, Bool.false_or] at hL
            rw [put_tmps_ne (fun e => hkj (huniq k j o oj (by omega) hj ho hoj (hds'.trans e.symm)))]
            exact hJ.vals k o s v' hk ho hds' hv' hL
        · obtain ⟨β, hβ1, hβ2⟩ := hJ.news
          have hne : ∀ i, (nv + i == j) = false := fun i => by simp; omega
          refine ⟨β, fun i x hx hL => ?_, fun i i' hi hi' hL hL' => ?_⟩
          · rw [hset, hne, Bool.false_or] at hL
            obtain ⟨q1, q2, q3⟩ := hβ1 i x hx hL
            refine ⟨?_, q2, (hb.block _ (lt_of_some q3)).trans q3⟩
            obtain ⟨o, ho, hdo⟩ := hdA i x hx
            have hi : i < al.length := (List.getElem?_eq_some_iff.1 hx).1
            rw [put_tmps_ne (fun e => by
              have := huniq (nv + i) j o oj (by omega) hj ho hoj (hdo.trans e.symm)
              omega)]
            exact q1
          · rw [hset, hne, Bool.false_or] at hL hL'
            exact hβ2 i i' hi hi' hL hL'
      · obtain ⟨i0, rfl⟩ : ∃ i, j = nv + i := ⟨j - nv, by omega⟩
        have hi0 : i0 < al.length := by omega
        obtain ⟨x, hx⟩ : ∃ x, al[i0]? = some x := ⟨al[i0], List.getElem?_eq_getElem _⟩
        obtain ⟨o, ho, hdo⟩ := hdA i0 x hx
        rw [hoj] at ho; cases ho
        refine okOp_mono (fun u w'' ⟨hu, hw''⟩ => ?_) (hA i0 x oj hx hoj a' w')
        subst hu hw''
        have hb : Below w'.heap.size w' (w'.alloc (.cells x.2.1 x.2.2)) := (Below.refl _ _).alloc (Nat.le_refl _) _
        refine ⟨hJ.below.trans (hb.mono hJ.below.size), (put_defers _ _ _).trans hJ.defers, (put_size _ _ _).trans hJ.size, fun s hs' => ?_, fun k o s v' hk ho hds' hv' hL => ?_, ?_⟩
        · rw [put_tmps_ne (hs' oj (List.mem_of_getElem? (i := nv + i0) (by rw [List.getElem?_take, if_pos hj]; exact hoj)))]
          exact hJ.other s hs'
        · rw [hset k] at hL
          have : (k == nv + i0) = false := by simp; omega
          rw [this, Bool.false_or] at hL
          rw [put_tmps_ne (fun e => by
            have := huniq k (nv + i0) o oj (by omega) hj ho hoj (hds'.trans e.symm)
            omega)]
          exact hJ.vals k o s v' hk ho hds' hv' hL
        · obtain ⟨β, hβ1, hβ2⟩ := hJ.news
          refine ⟨fun i => if i = i0 then w'.heap.size else β i, fun i y hy hL => ?_, fun i i' hi hi' hL hL' hne => ?_⟩
          · by_cases hii : i = i0
            · subst hii
              rw [hx] at hy; cases hy
              simp only [if_true]
              rw [hdo]
              have : x.1 < a'.tmps.size := by rw [hJ.size]; rw [hd] at hdo; cases hdo; exact hds
              exact ⟨by simp [Act.put, this], hJ.below.size, heap_alloc_new _ _⟩
            · rw [hset] at hL
              have : (nv + i == nv + i0) = false := by simpa using hii
              rw [this, Bool.false_or] at hL
              obtain ⟨q1, q2, q3⟩ := hβ1 i y hy hL
              simp only [if_neg hii]
              refine ⟨?_, q2, (hb.block _ (lt_of_some q3)).trans q3⟩
              obtain ⟨o', ho', hdo'⟩ := hdA i y hy
              have hi : i < al.length := (List.getElem?_eq_some_iff.1 hy).1
              rw [put_tmps_ne (fun e => by
                have := huniq (nv + i) (nv + i0) o' oj (by omega) hj ho' hoj (hdo'.trans e.symm)
                omega)]
              exact q1
          · rw [hset] at hL hL'
            have hlt : ∀ i, i < al.length → i ≠ i0 → L.getD (nv + i) true = true → β i < w'.heap.size := fun i hi hii hL => by
              obtain ⟨y, hy⟩ : ∃ y, al[i]? = some y := ⟨al[i], List.getElem?_eq_getElem _⟩
              exact lt_of_some (hβ1 i y hy hL).2.2
            by_cases h1 : i = i0
            · by_cases h2 : i' = i0
              · exact absurd (h1.trans h2.symm) hne
              · have : (nv + i' == nv + i0) = false := by simpa using h2
                rw [this, Bool.false_or] at hL'
                simp only [if_pos h1, if_neg h2]
                have := hlt i' hi' h2 hL'
                omega
            · have e1 : (nv + i == nv + i0) = false := by simpa using h1
              rw [e1, Bool.false_or] at hL
              by_cases h2 : i' = i0
              · simp only [if_neg h1, if_pos h2]
                have := hlt i hi h1 hL
                omega
              · have : (nv + i' == nv + i0) = false := by simpa using h2
                rw [this, Bool.false_or] at hL'
                simp only [if_neg h1, if_neg h2]
                exact hβ2 i i' hi hi' hL hL' hne)
    (fun L a' w' hs hall hnone hJ => by
      have hsl : l.toArray.size = l.length := by simp
      rw [hsl] at hs hnone ⊢
      have hL : L = (List.replicate (nv + al.length) true ++ List.replicate (l.length - (nv + al.length)) false).toArray := by
        apply Array.ext
        · simp; omega
        · intro i h1 h2
          simp only [List.getElem_toArray]
          rcases Nat.lt_or_ge i (nv + al.length) with hi | hi
          · rw [List.getElem_append_left (by simpa using hi)]
            have := hall i hi
            rw [getD_lt h1] at this
            simpa using this
          · rw [List.getElem_append_right (by simpa using hi)]
            have := hnone i hi (by omega)
            rw [getD_lt h1] at this
            simpa using this
      have hlen2 : (l.drop (nv + al.length)).length = l.length - (nv + al.length) := List.length_drop
      rw [← hlen2]
      refine wpAny_of_seq (l.drop (nv + al.length)) (nv + al.length) L a' w' (fun j => by rw [List.getElem?_drop]; simp) (by rw [hlen2, hL]; exact hseq) ?_
      obtain ⟨β, hβ1, hβ2⟩ := hJ.news
      have hlist : ∀ i, i < al.length → L.getD (nv + i) true = true := fun i hi => hall _ (by omega)
      have hnew := freshQ_use al ((List.range al.length).map β) [] _ (hK w' hJ.below) (by simp) (by
        rw [List.Nodup, List.pairwise_map]
        refine List.Pairwise.imp_of_mem (fun {i j} hi hj hij => ?_) List.nodup_range
        rw [List.mem_range] at hi hj
        exact hβ2 i j hi hj (hlist i hi) (hlist j hj) hij) (fun b _ h => by cases h)
        (fun i x b hx hb => by
          have hi : i < al.length := (List.getElem?_eq_some_iff.1 hx).1
          rw [List.getElem?_map, List.getElem?_range hi] at hb
          simp only [Option.map_some, Option.some.injEq] at hb
          subst hb
          exact (hβ1 i x hx (hlist i hi)).2)
      have ha : a' = putNew al ((List.range al.length).map β) (putAll (l.take nv) vs a) := by
        have hmaps : (al.map (·.1)).Nodup := by
          refine hmapsome _ ?_
          rw [← hslots, List.map_take, List.map_drop]
          have h9 : (((l.map (·.dst)).take (nv + al.length)).drop nv).Nodup := by
            rw [← List.map_take]
            exact hnd.sublist (List.drop_sublist _ _)
          rw [List.drop_take] at h9
          rw [show nv + al.length - nv = al.length by omega] at h9
          exact h9
        have htm : a'.tmps = (putNew al ((List.range al.length).map β) (putAll (l.take nv) vs a)).tmps := by
          apply Array.ext_getElem?
          intro s
          by_cases hex : ∃ i oi, i < nv + al.length ∧ l[i]? = some oi ∧ oi.dst = some s
          · obtain ⟨i, oi, hi, hoi, hdi⟩ := hex
            obtain ⟨_, hd2, hds2, _⟩ := hdS i oi hi hoi
            rw [hdi] at hd2; cases hd2
            rcases Nat.lt_or_ge i nv with hiv | hiv
            · obtain ⟨vi, hvi⟩ : ∃ v, vs[i]? = some v := ⟨vs[i]'(by omega), List.getElem?_eq_getElem _⟩
              rw [hJ.vals i oi s vi hiv hoi hdi hvi (hall i hi), putNew_other al _ _ s (fun x hx e => by
                obtain ⟨m, hm'⟩ := List.getElem?_of_mem hx
                have hml : m < al.length := (List.getElem?_eq_some_iff.1 hm').1
                obtain ⟨o', ho', hdo'⟩ := hdA m x hm'
                have := huniq (nv + m) i o' oi (by omega) hi ho' hoi (by rw [hdo', hdi, e])
                omega)]
              refine (putAll_at _ _ a s i oi vi ?_ (by rw [List.getElem?_take, if_pos hiv]; exact hoi) hdi hvi hds2).symm
              have e1 : l.take nv = (l.take (nv + al.length)).take nv := by rw [List.take_take, Nat.min_eq_left (by omega)]
              rw [e1, List.map_take]
              exact hnd.sublist (List.take_sublist _ _)
            · obtain ⟨m, rfl⟩ : ∃ m, i = nv + m := ⟨i - nv, by omega⟩
              have hml : m < al.length := by omega
              obtain ⟨x, hx⟩ : ∃ x, al[m]? = some x := ⟨al[m], List.getElem?_eq_getElem _⟩
              obtain ⟨o', ho', hdo'⟩ := hdA m x hx
              rw [hoi] at ho'; cases ho'
              have hsx : s = x.1 := by rw [hdi] at hdo'; exact Option.some.inj hdo'
              rw [hsx, (hβ1 m x hx (hlist m hml)).1]
              exact (putNew_at al _ _ m x (β m) hmaps hx (by rw [List.getElem?_map, List.getElem?_range hml]; rfl) (by rw [putAll_size, ← hsx]; exact hds2)).symm
          · have hno : ∀ o ∈ l.take (nv + al.length), o.dst ≠ some s := fun o ho e => by
              obtain ⟨i, hi⟩ := List.getElem?_of_mem ho
              have hi1 : i < nv + al.length := by
                have := (List.getElem?_eq_some_iff.1 hi).1
                rw [List.length_take] at this; omega
              rw [List.getElem?_take, if_pos hi1] at hi
              exact hex ⟨i, o, hi1, hi, e⟩
            rw [hJ.other s hno, putNew_other al _ _ s (fun x hx e => by
                obtain ⟨m, hm'⟩ := List.getElem?_of_mem hx
                have hml : m < al.length := (List.getElem?_eq_some_iff.1 hm').1
                obtain ⟨o', ho', hdo'⟩ := hdA m x hm'
                exact hex ⟨nv + m, o', by omega, ho', by rw [hdo', e]⟩), putAll_other]
            intro o ho
            refine hno o ?_
            have e1 : l.take nv = (l.take (nv + al.length)).take nv := by rw [List.take_take, Nat.min_eq_left (by omega)]
            rw [e1] at ho
            exact List.mem_of_mem_take ho
        have hdf : a'.defers = (putNew al ((List.range al.length).map β) (putAll (l.take nv) vs a)).defers := by rw [putNew_defers, putAll_defers, hJ.defers]
        cases a'
        generalize putNew al ((List.range al.length).map β) (putAll (l.take nv) vs a) = y at htm hdf
        cases y
        simp only at htm hdf
        rw [htm, hdf]
      rw [ha]
      exact hnew)
  have hD0 : DC .any l.toArray (Array.replicate l.toArray.size false) := fun k o _ hk => by
    rw [Array.getD_eq_getD_getElem?] at hk
    rcases Nat.lt_or_ge k l.toArray.size with h' | h'
    · rw [Array.getElem?_eq_getElem (by simpa using h')] at hk
      simp at hk
    · rw [Array.getElem?_eq_none (by simpa using h')] at hk
      simp at hk
  have hfin := key (nv + al.length) (Array.replicate l.toArray.size false) a { w with drawn := w.drawn + 1 } hD0 (by simp) (fun k hk hks => by rw [getD_lt (by simpa using hks)]; simp)
    (by
      rw [List.filter_eq_self.2 (fun i hi => by
        rw [List.mem_range] at hi
        rw [getD_lt (by simp; omega)]; simp)]
      simp)
    ⟨⟨rfl, rfl, rfl, Nat.le_refl _, fun _ _ => rfl⟩, rfl, rfl, fun _ _ => rfl, fun k o s v hk ho _ _ hL => by
      have hkl : k < l.length := by omega
      rw [getD_lt (by simpa using hkl)] at hL
      simp at hL, ⟨fun _ => 0, fun i x hx hL => by
        have hi : i < al.length := (List.getElem?_eq_some_iff.1 hx).1
        rw [getD_lt (by simp; omega)] at hL
        simp at hL, fun i j hi _ hL _ _ => by
        rw [getD_lt (by simp; omega)] at hL
        simp at hL⟩⟩
  rw [show nv + al.length + (l.toArray.size - (nv + al.length)) = l.toArray.size by simp; omega] at hfin
  exact hfin
end Go.Proofs.YtbcpmnnlhdgbhaaGreatDoor

namespace Go.Proofs.YtbcpmnnlhdgbhaaGreatDoor
open Go.RowKit
section
variable {P : Program} {w0 : World} {K : Act → Prop} {o : Oper} {r : List Oper} {a : Act}
theorem alloc_ok {t : TypeId} {zs : Array Value} (ho : o.op = .alloc t) (hz : ∀ w, (zeroValue t).run P w = .ok (.agg zs) w) (a : Act) (w : World) : okOp P o a w (fun u w' => u = .pointer (some ⟨w.heap.size, 0, none⟩) ∧ w' = w.alloc (.cells zs t)) := by
  unfold okOp
  have h1 : (execOp a.eval o).run P w = .ok (.value (.pointer (some ⟨w.heap.size, 0, none⟩))) (w.alloc (.cells zs t)) := by
    unfold execOp
    simp only [ho, Instr.alloc, hz, Sem.run_bind, Sem.run_pure, Result.andThen_ok]
    rfl
  rw [h1]
  exact ⟨rfl, rfl⟩
end
end Go.Proofs.YtbcpmnnlhdgbhaaGreatDoor

namespace Go.Proofs.YtbcpmnnlhdgbhaaGreatDoor
open Go.RowKit Go.Lib
/-- The blocks bs are the call's own, each its own, and lie as told. -/
structure BK (w0 w : World) (bs : List (Nat × Array Value × TypeId)) : Prop where
  below : Below w0.heap.size w0 w
  nodup : (bs.map (·.1)).Nodup
  own : ∀ e ∈ bs, w0.heap.size ≤ e.1
  row : ∀ e ∈ bs, w.heap[e.1]? = some (.cells e.2.1 e.2.2 (0, 0))
theorem BK.start (w : World) : BK w w [] := ⟨Below.refl _ _, List.nodup_nil, fun _ h => (List.not_mem_nil h).elim, fun _ h => (List.not_mem_nil h).elim⟩
theorem BK.later {w0 w w' : World} {bs : List (Nat × Array Value × TypeId)} (h : BK w0 w bs) (hb : Below w.heap.size w w') : BK w0 w' bs :=
  ⟨h.below.trans (hb.mono h.below.size), h.nodup, h.own, fun e he => heap_below (h.row e he) hb⟩
theorem BK.mem {w0 w : World} {bs : List (Nat × Array Value × TypeId)} (h : BK w0 w bs) {i : Nat} {e : Nat × Array Value × TypeId} (hi : bs[i]? = some e) : w.heap[e.1]? = some (.cells e.2.1 e.2.2 (0, 0)) := h.row e (List.mem_of_getElem? hi)
theorem BK.add {w0 w : World} {bs : List (Nat × Array Value × TypeId)} (h : BK w0 w bs) (b : Nat) (cs : Array Value) (t : TypeId) (hb : w0.heap.size ≤ b) (hn : b ∉ bs.map (·.1)) (hr : w.heap[b]? = some (.cells cs t (0, 0))) : BK w0 w ((b, cs, t) :: bs) :=
  ⟨h.below, List.nodup_cons.2 ⟨hn, h.nodup⟩, fun e he => (List.mem_cons.1 he).elim (fun h1 => by subst h1; exact hb) (h.own e), fun e he => (List.mem_cons.1 he).elim (fun h1 => by subst h1; exact hr) (h.row e)⟩
theorem BK.alloc {w0 w : World} {bs : List (Nat × Array Value × TypeId)} (h : BK w0 w bs) {b : Nat} (hb : b = w.heap.size) (cs : Array Value) (t : TypeId) : BK w0 (w.alloc (.cells cs t)) ((b, cs, t) :: bs) := by
  subst hb
  refine (h.later ((Below.refl _ _).alloc (Nat.le_refl _) _)).add _ cs t h.below.size (fun hm => ?_) (heap_alloc_new w _)
  obtain ⟨e, he, h1⟩ := List.mem_map.1 hm
  have := lt_of_heap (h.row e he)
  omega
/-- A block found new behind a growth of the world. -/
theorem BK.found {w0 w w' : World} {bs : List (Nat × Array Value × TypeId)} (h : BK w0 w bs) (hw : Below w.heap.size w w') {b : Nat} {cs : Array Value} {t : TypeId} (hb : w.heap.size ≤ b) (hr : w'.heap[b]? = some (.cells cs t (0, 0))) : BK w0 w' ((b, cs, t) :: bs) := by
  refine (h.later hw).add b cs t (Nat.le_trans h.below.size hb) (fun hm => ?_) hr
  obtain ⟨e, he, h1⟩ := List.mem_map.1 hm
  have := lt_of_heap (h.row e he)
  omega
/-- Several blocks found new. -/
theorem BK.foundAll {w0 w w' : World} {bs : List (Nat × Array Value × TypeId)} (h : BK w0 w bs) (hw : Below w.heap.size w w') (new : List (Nat × Array Value × TypeId)) (hn : (new.map (·.1)).Nodup) (hf : ∀ e ∈ new, w.heap.size ≤ e.1 ∧ w'.heap[e.1]? = some (.cells e.2.1 e.2.2 (0, 0))) : BK w0 w' (new ++ bs) := by
  have hl := h.later hw
  induction new with
  | nil => exact hl
  | cons e r ih =>
    rw [List.map_cons, List.nodup_cons] at hn
    have h1 := hf e List.mem_cons_self
    refine (ih hn.2 fun f hfm => hf f (List.mem_cons_of_mem _ hfm)).add e.1 e.2.1 e.2.2 (Nat.le_trans h.below.size h1.1) (fun hm => ?_) h1.2
    obtain ⟨f, hfm, h2⟩ := List.mem_map.1 hm
    rcases List.mem_append.1 hfm with hfm | hfm
    · exact hn.1 (List.mem_map.2 ⟨f, hfm, h2⟩)
    · have := lt_of_heap (h.row f hfm)
      omega
theorem heap_setCells_row {b : Nat} {t : TypeId} {w : World} {c v : Array Value} (h : w.heap[b]? = some (.cells c t (0, 0))) (hs : v.size = c.size) : (w.setCells b 0 v.toList).heap[b]? = some (.cells v t (0, 0)) := by
  have key : ∀ (vs pre old post : List Value) (o : Nat) (w : World), pre.length = o → old.length = vs.length → w.heap[b]? = some (.cells (pre ++ (old ++ post)).toArray t (0, 0)) → (w.setCells b o vs).heap[b]? = some (.cells (pre ++ (vs ++ post)).toArray t (0, 0)) := by
    intro vs
    induction vs with
    | nil =>
      intro pre old post o w _ hl h
      rw [List.length_eq_zero_iff.1 hl] at h
      exact h
    | cons v vs ih =>
      intro pre old post o w hp hl h
      cases old with
      | nil => cases hl
      | cons u old =>
        have h1 := heap_setCell_same w b o _ _ v h
        have e : ((pre ++ (u :: old ++ post)).toArray).setIfInBounds o v = ((pre ++ [v]) ++ (old ++ post)).toArray := by
          subst hp
          simp
        rw [e] at h1
        have h2 := ih (pre ++ [v]) old post (o + 1) (w.setCell ⟨b, o, none⟩ v) (by simp [hp]) (by simpa using hl) h1
        rw [List.append_assoc] at h2
        exact h2
  have h1 := key v.toList [] c.toList [] 0 w rfl (by simp [hs]) (by simpa using h)
  simpa using h1
theorem nodup_ne {bs : List (Nat × Array Value × TypeId)} (h : (bs.map (·.1)).Nodup) {i j : Nat} {e f : Nat × Array Value × TypeId} (hi : bs[i]? = some e) (hj : bs[j]? = some f) (hne : i ≠ j) : e.1 ≠ f.1 := fun h0 => by
  have hp := List.pairwise_iff_getElem.1 h
  obtain ⟨h1, e1⟩ := List.getElem?_eq_some_iff.1 hi
  obtain ⟨h2, e2⟩ := List.getElem?_eq_some_iff.1 hj
  rcases Nat.lt_trichotomy i j with h3 | h3 | h3
  · exact hp i j (by simpa using h1) (by simpa using h2) h3 (by simp [e1, e2, h0])
  · exact hne h3
  · exact hp j i (by simpa using h2) (by simpa using h1) h3 (by simp [e1, e2, h0])
theorem BK.set_of {w0 w w' : World} {bs : List (Nat × Array Value × TypeId)} (h : BK w0 w bs) (i : Nat) {b : Nat} {c v : Array Value} {t : TypeId} (hi : bs[i]? = some (b, c, t)) (hB : Below w0.heap.size w0 w')
    (hr : w'.heap[b]? = some (.cells v t (0, 0))) (ho : ∀ k, k ≠ b → w'.heap[k]? = w.heap[k]?) : BK w0 w' (bs.set i (b, v, t)) := by
  have hi1 : i < bs.length := (List.getElem?_eq_some_iff.1 hi).1
  have hmap : (bs.set i (b, v, t)).map (·.1) = bs.map (·.1) := by
    apply List.ext_getElem?
    intro k
    rw [List.getElem?_map, List.getElem?_map, List.getElem?_set]
    split
    · rename_i h1; subst h1; simp [hi1]
      have := (List.getElem?_eq_some_iff.1 hi).2
      rw [this]
    · rfl
  refine ⟨hB, by rw [hmap]; exact h.nodup, fun e he => ?_, fun e he => ?_⟩
  · have : e.1 ∈ (bs.set i (b, v, t)).map (·.1) := List.mem_map.2 ⟨e, he, rfl⟩
    rw [hmap] at this
    obtain ⟨f, hf, h1⟩ := List.mem_map.1 this
    rw [← h1]
    exact h.own f hf
  · obtain ⟨k, hk⟩ := List.getElem?_of_mem he
    rw [List.getElem?_set] at hk
    split at hk
    · rename_i h1
      subst h1
      simp only [Option.some.injEq] at hk
      subst hk
      exact hr
    · rename_i h1
      rw [ho _ (fun e2 => nodup_ne h.nodup hi hk h1 e2.symm)]
      exact h.row e (List.mem_of_getElem? hk)
theorem BK.put {w0 w : World} {bs : List (Nat × Array Value × TypeId)} (h : BK w0 w bs) (i : Nat) {b : Nat} {c : Array Value} {t : TypeId} (hi : bs[i]? = some (b, c, t)) (v : Array Value) (hs : v.size = c.size) : BK w0 (w.setCells b 0 v.toList) (bs.set i (b, v, t)) :=
  h.set_of i hi (below_setCells _ _ _ h.below (h.own _ (List.mem_of_getElem? hi))) (heap_setCells_row (h.mem hi) hs) (fun _ hk => heap_setCells_ne hk _ _ _)
theorem BK.put1 {w0 w : World} {bs : List (Nat × Array Value × TypeId)} (h : BK w0 w bs) (i : Nat) {b : Nat} {c : Array Value} {t : TypeId} (hi : bs[i]? = some (b, c, t)) (k : Nat) (v : Value) : BK w0 (w.setCell ⟨b, k, none⟩ v) (bs.set i (b, c.setIfInBounds k v, t)) :=
  h.set_of i hi (h.below.setCell (p := ⟨b, k, none⟩) (h.own _ (List.mem_of_getElem? hi)) _) (heap_setCell_same w b k c t v (h.mem hi)) (fun _ hk => Below.heap_setCell _ _ _ _ hk)
theorem BK.cell {w0 w : World} {bs : List (Nat × Array Value × TypeId)} (h : BK w0 w bs) (i : Nat) {b : Nat} {c : Array Value} {t : TypeId} (hi : bs[i]? = some (b, c, t)) (k : Nat) : w.cell? ⟨b, k, none⟩ = c[k]? := cell_of_row w b k _ _ _ (h.mem hi)
theorem BK.free {w0 w : World} {bs : List (Nat × Array Value × TypeId)} (h : BK w0 w bs) (i : Nat) {b : Nat} {c : Array Value} {t : TypeId} (hi : bs[i]? = some (b, c, t)) (k : Nat) : w.frozen? ⟨b, k, none⟩ = false := frozen_row (h.mem hi) k
theorem BK.range {w0 w : World} {bs : List (Nat × Array Value × TypeId)} (h : BK w0 w bs) (i : Nat) {b : Nat} {c : Array Value} {t : TypeId} (hi : bs[i]? = some (b, c, t)) : w.rangeAt b 0 c.toList := range_row (h.mem hi)
theorem BK.there {w0 w : World} {bs : List (Nat × Array Value × TypeId)} (h : BK w0 w bs) (i : Nat) {b : Nat} {c : Array Value} {t : TypeId} (hi : bs[i]? = some (b, c, t)) : w.there b 0 c.size := there_row (h.mem hi) (Nat.le_refl _)
/-- A part of a row. -/
theorem rangeAt_part {w : World} {b : Nat} {c : Array Value} {t : TypeId} (h : w.heap[b]? = some (.cells c t (0, 0))) (o : Nat) (l : List Value) (hl : ∀ j, j < l.length → c[o + j]? = l[j]?) : w.rangeAt b o l := fun j v hv => by
  rw [cell_of_row w b (o + j) c t _ h, hl j (List.getElem?_eq_some_iff.1 hv).1]
  exact hv
end Go.Proofs.YtbcpmnnlhdgbhaaGreatDoor
