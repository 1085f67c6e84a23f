/- The texts Reg Reg3 Reg6 of this work, merged by wip/merge.py. No conditions. -/
import Derived.WalkKit
import Derived.Deep.Quiet
namespace Go.Proofs.YtbcpmnnlhdgbhaaGreatDoor
section
variable {P : Program} {ops : Array Oper} {md : Region.Mode} {C : World → Prop} {Q : Act → World → Prop}

/-- An operation that ends without a panic: K of what it yields. -/
def okUpon (P : Program) (K : Value → World → Prop) : Result Next → Prop
  | .ok (.value v) w' => K v w'
  | .ok .skip w' => K undef w'
  | .ok (.enter f args) w' => Calls P f args w' (fun e w'' => ∃ v, e = .returned v ∧ K v w'')
  | .ok (.row row args) w' => Rows P row args w' K
  | _ => False
def okOp (P : Program) (o : Oper) (a : Act) (w : World) (K : Value → World → Prop) : Prop := okUpon P K ((execOp a.eval o).run P w)
def okStep (P : Program) (ops : Array Oper) (i : Nat) (K : Act → World → Prop) (a : Act) (w : World) : Prop :=
  match ops[i]? with
  | none => False
  | some o => if Region.wanted o (yielded ops a.tmps) then okOp P o a w (fun v w' => K (a.put o.dst v) w') else K (a.put o.dst undef) w

theorem okOp_mono {o : Oper} {a : Act} {w : World} {K K' : Value → World → Prop} (h : ∀ v w', K v w' → K' v w') (hh : okOp P o a w K) : okOp P o a w K' := by
  unfold okOp at *
  generalize (execOp a.eval o).run P w = r at *
  cases r with
  | ok n w' =>
    cases n <;> simp only [okUpon] at hh ⊢
    case value v => exact h _ _ hh
    case skip => exact h _ _ hh
    case enter f args => exact hh.mono fun e w'' ⟨v, he, hv⟩ => ⟨v, he, h _ _ hv⟩
    case row row args => exact Rows.mono hh fun v w'' hv => h _ _ hv
  | halt x w' => simp only [okUpon] at hh
theorem okStep_mono {i : Nat} {a : Act} {w : World} {K K' : Act → World → Prop} (h : ∀ a w, K a w → K' a w) (hh : okStep P ops i K a w) : okStep P ops i K' a w := by
  unfold okStep at *
  split
  · rename_i ho; simp only [ho] at hh
  · rename_i o ho
    simp only [ho] at hh
    split
    · rename_i hw; simp only [hw, if_true] at hh; exact okOp_mono (fun v w' hv => h _ _ hv) hh
    · rename_i hw; simp only [hw] at hh; exact h _ _ hh
theorem wpOp_of_okStep {Q' : Exit → Act → World → Prop} {i : Nat} {a : Act} {w : World} {K : Act → World → Prop} (hh : okStep P ops i K a w) : wpOp P ops Q' i K a w := by
  unfold okStep at hh
  unfold wpOp
  split
  · rename_i ho; simp only [ho] at hh
  · rename_i o ho
    simp only [ho] at hh
    split
    · rename_i hw
      simp only [hw, if_true] at hh
      refine .inl ?_
      unfold okOp at hh
      unfold Oper.wp
      generalize (execOp a.eval o).run P w = r at *
      cases r with
      | ok n w' =>
        cases n <;> simp only [okUpon] at hh <;> simp only [Oper.upon]
        case value v => exact hh
        case skip => exact hh
        case enter f args => exact hh.mono fun e w'' ⟨v, he, hv⟩ => by subst he; exact hv
        case row row args => exact hh
      | halt x w' => simp only [okUpon] at hh
    · rename_i hw; simp only [hw] at hh; exact hh

/-- Whatever order is picked from here on; every world on the way is one of the class. -/
def anyC (P : Program) (md : Region.Mode) (ops : Array Oper) (C : World → Prop) (Q : Act → World → Prop) : Nat → Array Bool → Act → World → Prop
  | 0, listed, a, w => Region.ready md ops listed = [] ∧ Q a w
  | fuel + 1, listed, a, w =>
    (Region.ready md ops listed = [] → Q a w) ∧
    ∀ i ∈ Region.ready md ops listed, okStep P ops i (fun a' w' => C w' ∧ anyC P md ops C Q fuel (listed.setIfInBounds i true) a' w') a w
theorem wpAny_of_anyC {Q' : Exit → Act → World → Prop} (hQ : ∀ a w, Q a w → Q' .normal a w) : ∀ (fuel : Nat) (listed : Array Bool) (a : Act) (w : World),
    anyC P md ops C Q fuel listed a w → wpAny P md ops Q' fuel listed a w
  | 0, _, _, _, h => ⟨h.1, hQ _ _ h.2⟩
  | fuel + 1, _, _, _, h => ⟨fun h0 => hQ _ _ (h.1 h0), fun i hi => wpOp_of_okStep (okStep_mono (fun a' w' h' => wpAny_of_anyC hQ fuel _ a' w' h'.2) (h.2 i hi))⟩
theorem wp_region_anyC {id : Nat} {Q' : Exit → Act → World → Prop} {a : Act} {w : World} (hm : P.follows .mixedOrders = true) (hC : C { w with drawn := w.drawn + 1 })
    (h : ∀ w', C w' → anyC P .any ops C (fun a w => Q' .normal a w) ops.size (Array.replicate ops.size false) a w') : (Code.region id ops true).wp P Q' a w :=
  wp_region_any hm (wpAny_of_anyC (fun _ _ h => h) _ _ _ _ (h _ hC))

/-- In state 'a', in every world of the class, the operation leaves 'v' in its temporary, and the world as it is. -/
def YieldsC (P : Program) (ops : Array Oper) (C : World → Prop) (o : Oper) (v : Value) (a : Act) : Prop :=
  (Region.wanted o (yielded ops a.tmps) = true ∧ ∀ w, C w → okOp P o a w (fun u w' => u = v ∧ w' = w)) ∨
  (Region.wanted o (yielded ops a.tmps) = false ∧ v = undef)
theorem YieldsC.of_same {o : Oper} {v : Value} {a a' : Act} (hy : YieldsC P ops C o v a) (he : execOp a'.eval o = execOp a.eval o)
    (hw : Region.wanted o (yielded ops a'.tmps) = Region.wanted o (yielded ops a.tmps)) : YieldsC P ops C o v a' := by
  unfold YieldsC okOp at *
  rw [he, hw]
  exact hy
theorem YieldsC.step {i : Nat} {o : Oper} {v : Value} {a : Act} {w : World} (hi : ops[i]? = some o) (hy : YieldsC P ops C o v a) (hC : C w) {K : Act → World → Prop} (h : K (a.put o.dst v) w) : okStep P ops i K a w := by
  unfold okStep
  simp only [hi]
  rcases hy with ⟨hw, hv⟩ | ⟨hw, rfl⟩
  · simp only [hw, if_true]
    exact okOp_mono (fun u w' ⟨h1, h2⟩ => by subst h1; subst h2; exact h) (hv w hC)
  · simp only [hw, Bool.false_eq_true, if_false]; exact h
theorem okStep_put {j : Nat} {oi oj : Oper} {v : Value} (hj : ops[j]? = some oj) (hap : oi.apart ops oj = true)
    (hsi : ∀ cs b, oi.op ≠ .select cs b) (hsj : ∀ cs b, oj.op ≠ .select cs b) {K : Act → World → Prop} {a : Act} {w : World}
    (hy : YieldsC P ops C oi v a) (h : okStep P ops j K (a.put oi.dst v) w) :
    okStep P ops j (fun a' w' => YieldsC P ops C oi v a' ∧ K (a'.put oi.dst v) w') a w := by
  obtain ⟨h1, h2, h3⟩ := Oper.apart_spec hap
  have keep : ∀ (a : Act), YieldsC P ops C oi v a → ∀ u, YieldsC P ops C oi v (a.put oj.dst u) := fun a hy u =>
    hy.of_same (execOp_put oi hsi a oj.dst u h3) (wanted_put oi a oj.dst u h3)
  unfold okStep at *
  simp only [hj] at *
  rw [wanted_put oj a oi.dst v h1] at h
  split
  · rename_i hw
    simp only [hw, if_true] at h
    have h' : okOp P oj a w (fun u w' => K ((a.put oi.dst v).put oj.dst u) w') := by
      unfold okOp at *
      rwa [execOp_put oj hsj a oi.dst v h1] at h
    exact okOp_mono (fun u w' hu => ⟨keep a hy u, by rw [← Act.put_comm a v u h2]; exact hu⟩) h'
  · rename_i hw
    simp only [hw] at h
    exact ⟨keep a hy _, by rw [← Act.put_comm a v undef h2]; exact h⟩
theorem anyC_first {i : Nat} {oi : Oper} {v : Value} (hi : ops[i]? = some oi) (hsel : ∀ (j : Nat) (o : Oper) cs b, ops[j]? = some o → o.op ≠ .select cs b) :
    ∀ (fuel : Nat) (listed : Array Bool) (a : Act),
      (∀ j oj, ops[j]? = some oj → j ≠ i → listed.getD j true = false → (∀ e ∈ oj.after, Region.binds md e = true → e.on ≠ i) → oi.apart ops oj = true) →
      i ∈ Region.ready md ops listed → YieldsC P ops C oi v a → ∀ w, C w →
      anyC P md ops C Q fuel (listed.setIfInBounds i true) (a.put oi.dst v) w → anyC P md ops C Q (fuel + 1) listed a w := by
  intro fuel
  induction fuel with
  | zero =>
    intro listed a _ hr hy w hC H
    refine ⟨fun h => (by rw [h] at hr; cases hr), fun j hj => ?_⟩
    by_cases hji : j = i
    · subst hji; exact hy.step hi hC ⟨hC, H⟩
    · have := ready_mono hj hji
      rw [H.1] at this
      cases this
  | succ fuel ih =>
    intro listed a hfree hr hy w hC H
    refine ⟨fun h => (by rw [h] at hr; cases hr), fun j hj => ?_⟩
    by_cases hji : j = i
    · subst hji; exact hy.step hi hC ⟨hC, H⟩
    · have h1 := H.2 j (ready_mono hj hji)
      obtain ⟨hjun, oj, hoj, hall⟩ := mem_ready.1 hj
      have hnot : ∀ e ∈ oj.after, Region.binds md e = true → e.on ≠ i := fun e he hb heq => by
        have h1 := hall e he hb
        have h0 := (mem_ready.1 hr).1
        rw [heq] at h1
        rcases Nat.lt_or_ge i listed.size with h' | h'
        · simp [h'] at h0 h1; rw [h0] at h1; cases h1
        · simp [Array.getElem?_eq_none h'] at h1
      have h2 := okStep_put hoj (hfree j oj hoj hji hjun hnot) (fun cs b => hsel i oi cs b hi) (fun cs b => hsel j oj cs b hoj) hy h1
      have hfree' : ∀ k ok, ops[k]? = some ok → k ≠ i → (listed.setIfInBounds j true).getD k true = false →
          (∀ e ∈ ok.after, Region.binds md e = true → e.on ≠ i) → oi.apart ops ok = true := fun k ok hk hki hun hno => by
        refine hfree k ok hk hki ?_ hno
        by_cases hjk : j = k
        · subst hjk; exact hjun
        · rw [getD_set_ne true hjk] at hun; exact hun
      refine okStep_mono (fun a' w' h3 => ⟨h3.2.1, ih (listed.setIfInBounds j true) a' hfree' (ready_mono hr (Ne.symm hji)) h3.1 w' h3.2.1 ?_⟩) h2
      rw [Array.setIfInBounds_comm _ _ hji]
      exact h3.2.2

/-- Phase 1: operation number i, which may come up now and is apart from all that do not wait for it, is taken. -/
theorem take_quiet {i : Nat} {oi : Oper} {fuel : Nat} {listed : Array Bool} {a : Act} (hi : ops[i]? = some oi) (hs : Region.noSelect ops = true)
    (hB : (Region.free md ops listed i && (Region.ready md ops listed).contains i) = true)
    (h : if Region.wanted oi (yielded ops a.tmps) then ∃ v, (∀ w, C w → okOp P oi a w (fun u w' => u = v ∧ w' = w)) ∧ ∀ w, C w → anyC P md ops C Q fuel (listed.setIfInBounds i true) (a.put oi.dst v) w
      else ∀ w, C w → anyC P md ops C Q fuel (listed.setIfInBounds i true) (a.put oi.dst undef) w) : ∀ w, C w → anyC P md ops C Q (fuel + 1) listed a w := by
  rw [Bool.and_eq_true] at hB
  intro w hC
  by_cases hw : Region.wanted oi (yielded ops a.tmps) = true
  · rw [if_pos hw] at h
    obtain ⟨v, h1, h2⟩ := h
    exact anyC_first hi (Region.noSelect_spec hs) fuel listed a (Region.free_spec hi hB.1) (by simpa using hB.2) (.inl ⟨hw, h1⟩) w hC (h2 w hC)
  · rw [if_neg hw] at h
    exact anyC_first hi (Region.noSelect_spec hs) fuel listed a (Region.free_spec hi hB.1) (by simpa using hB.2) (.inr ⟨by simpa using hw, rfl⟩) w hC (h w hC)
/-- The walk of one operation ends here. -/
def OnK (K : Act → World → Prop) : Exit → Act → World → Prop
  | .normal, a, w => K a w
  | _, _, _ => False
/-- Phase 1: operation number i, walked in whatever world of the class, leaves that world and the frame a'. -/
theorem take_walk {i : Nat} {oi : Oper} {fuel : Nat} {listed : Array Bool} {a a' : Act} {w0 : World} (hi : ops[i]? = some oi)
    (hB : (Region.noSelect ops && (Region.free md ops listed i && (Region.ready md ops listed).contains i)) = true) (hw0 : C w0)
    (hd : (match oi.dst with | some d => decide (d < a.tmps.size) | none => false) = true)
    (hv : ∀ w, C w → ∀ K : Act → World → Prop, K a' w → wpList P ops (OnK K) [oi] a w) (hdf : a'.defers = a.defers)
    (h : ∀ w, C w → anyC P md ops C Q fuel (listed.setIfInBounds i true) a' w) : ∀ w, C w → anyC P md ops C Q (fuel + 1) listed a w := by
  rw [Bool.and_eq_true] at hB
  -- what the walk shows
  have key : ∀ w, C w → if Region.wanted oi (yielded ops a.tmps) then okOp P oi a w (fun u w' => a.put oi.dst u = a' ∧ w' = w) else a.put oi.dst undef = a' := by
    intro w hC
    have h1 := hv w hC (fun x y => x = a' ∧ y = w) ⟨rfl, rfl⟩
    unfold wpList at h1
    split at h1
    · rename_i hw
      rw [if_pos hw]
      rcases h1 with h1 | ⟨_, h1⟩
      · unfold Oper.wp at h1
        unfold okOp
        generalize (execOp a.eval oi).run P w = r at *
        cases r with
        | ok n w' =>
          cases n <;> simp only [Oper.upon, wpList, OnK] at h1 <;> simp only [okUpon]
          case value v => exact h1
          case skip => exact h1
          case defer d =>
            have h2 := congrArg (fun x : Act => x.defers.length) h1.1
            rw [hdf] at h2
            cases hdd : oi.dst <;> simp [Act.put, hdd] at h2
          case enter f args =>
            refine h1.mono fun e w'' he => ?_
            cases e with
            | returned v => exact ⟨v, rfl, he⟩
            | panicked c => exact he.elim
            | outgrown => obtain ⟨_, _, hq⟩ := he; exact hq.elim
          case row row args => exact h1
        | halt x w' => cases x <;> simp only [Oper.upon, OnK] at h1
      · obtain ⟨_, _, hq⟩ := h1; exact hq.elim
    · rename_i hw
      rw [if_neg hw]
      unfold wpList at h1
      exact h1.1
  -- one value for all worlds
  have hval : ∃ v, a' = a.put oi.dst v := by
    have h1 := key w0 hw0
    split at h1
    · unfold okOp at h1
      generalize (execOp a.eval oi).run P w0 = r at *
      cases r with
      | ok n w' =>
        cases n <;> simp only [okUpon] at h1
        case value v => exact ⟨v, h1.1.symm⟩
        case skip => exact ⟨undef, h1.1.symm⟩
        case enter f args =>
          obtain ⟨e, w'', fr, ⟨v, _, hv, _⟩, _⟩ := h1 []
          exact ⟨v, hv.symm⟩
        case row row args =>
          obtain ⟨v, w'', ⟨hv, _⟩, _⟩ := h1 default []
          exact ⟨v, hv.symm⟩
      | halt x w' => simp only [okUpon] at h1
    · exact ⟨undef, h1.symm⟩
  obtain ⟨v, rfl⟩ := hval
  have hinj : ∀ u, a.put oi.dst u = a.put oi.dst v → oi.dst.isSome = true → u = v := by
    intro u hu hs
    cases hdd : oi.dst with
    | none => rw [hdd] at hs; cases hs
    | some d =>
      rw [hdd] at hu hd
      have hd' : d < a.tmps.size := by simpa using hd
      have h1 : (a.put (some d) u).tmps[d]? = (a.put (some d) v).tmps[d]? := by rw [hu]
      simpa [Act.put, hd'] using h1
  intro w hC
  cases hdd : oi.dst with
  | none =>
    rw [hdd] at hd
    cases hd
  | some d =>
    refine take_quiet hi hB.1 hB.2 ?_ w hC
    split
    · rename_i hw
      refine ⟨v, fun w1 hC1 => ?_, fun w1 hC1 => h w1 hC1⟩
      have h1 := key w1 hC1
      rw [if_pos hw] at h1
      exact okOp_mono (fun u w2 ⟨e1, e2⟩ => ⟨hinj u e1 (by rw [hdd]; rfl), e2⟩) h1
    · rename_i hw
      have h1 := key w0 hw0
      rw [if_neg hw] at h1
      have hu := hinj undef h1 (by rw [hdd]; rfl)
      rw [hu]
      exact fun w1 hC1 => h w1 hC1
theorem anyC_mono {C' : World → Prop} (h : ∀ w, C w → C' w) : ∀ (fuel : Nat) (listed : Array Bool) (a : Act) (w : World), anyC P md ops C Q fuel listed a w → anyC P md ops C' Q fuel listed a w
  | 0, _, _, _, hh => hh
  | fuel + 1, _, _, _, hh => ⟨hh.1, fun i hi => okStep_mono (fun a' w' ⟨h1, h2⟩ => ⟨h _ h1, anyC_mono h fuel _ a' w' h2⟩) (hh.2 i hi)⟩

/-- Whatever order is picked from here on, in whatever world that has only grown since w0. -/
def Any (P : Program) (ops : Array Oper) (Q : Act → World → Prop) (fuel : Nat) (listed : Array Bool) (a : Act) (w0 : World) : Prop :=
  ∀ w, RowKit.Below w0.heap.size w0 w → anyC P .any ops (fun w => RowKit.Below w0.heap.size w0 w) Q fuel listed a w

theorem Any.start {id n : Nat} {Q' : Exit → Act → World → Prop} {a : Act} {w : World} {l : List Oper} (hm : P.follows .mixedOrders = true) (hn : l.length = n)
    (h : Any P l.toArray (fun a w => Q' .normal a w) n (Array.replicate n false) a w) : (Code.region id l.toArray true).wp P Q' a w := by
  subst hn
  refine wp_region_anyC (C := fun w' => RowKit.Below w.heap.size w w') hm ⟨rfl, rfl, rfl, Nat.le_refl _, fun _ _ => rfl⟩ ?_
  intro w' hw'
  simpa using h w' hw'
/-- At the end. -/
theorem Any.done {listed : Array Bool} {a : Act} {w0 : World} (hr : (Region.ready .any ops listed).isEmpty = true) (h : ∀ w, RowKit.Below w0.heap.size w0 w → Q a w) : Any P ops Q 0 listed a w0 :=
  fun w hw => ⟨by simpa using hr, h w hw⟩
/-- A quiet operation is taken. -/
theorem Any.take {i : Nat} {oi : Oper} {fuel : Nat} {listed : Array Bool} {a a' : Act} {w0 : World} (hi : ops[i]? = some oi)
    (hB : (Region.noSelect ops && (Region.free .any ops listed i && (Region.ready .any ops listed).contains i)) = true)
    (hd : (match oi.dst with | some d => decide (d < a.tmps.size) | none => false) = true)
    (hv : ∀ w, RowKit.Below w0.heap.size w0 w → ∀ K : Act → World → Prop, K a' w → wpList P ops (OnK K) [oi] a w) (hdf : a'.defers = a.defers)
    (h : Any P ops Q fuel (listed.setIfInBounds i true) a' w0) : Any P ops Q (fuel + 1) listed a w0 :=
  take_walk (C := fun w => RowKit.Below w0.heap.size w0 w) hi hB (RowKit.Below.refl _ _) hd hv hdf h
theorem Any.again {fuel : Nat} {listed : Array Bool} {a : Act} {w0 w : World} (hw : RowKit.Below w0.heap.size w0 w) (h : Any P ops Q fuel listed a w) : anyC P .any ops (fun w => RowKit.Below w0.heap.size w0 w) Q fuel listed a w :=
  anyC_mono (fun _ h' => hw.trans (h'.mono hw.size)) _ _ _ _ (h w (RowKit.Below.refl _ _))
theorem okOp_of_wp {o : Oper} {a : Act} {w : World} {K : Act → World → Prop} (hdf : ∀ a' w', K a' w' → a'.defers = a.defers) (h : wpList P ops (OnK K) [o] a w) :
    if Region.wanted o (yielded ops a.tmps) then okOp P o a w (fun v w' => K (a.put o.dst v) w') else K (a.put o.dst undef) w := by
  unfold wpList at h
  split at h
  · rename_i hw
    rw [if_pos hw]
    rcases h with h | ⟨_, h⟩
    · unfold Oper.wp at h
      unfold okOp
      generalize (execOp a.eval o).run P w = r at *
      cases r with
      | ok n w' =>
        cases n <;> simp only [Oper.upon, wpList, OnK] at h <;> simp only [okUpon]
        case value v => exact h
        case skip => exact h
        case defer d =>
          have h2 := congrArg List.length (hdf _ _ h)
          cases hdd : o.dst <;> simp [Act.put, hdd] at h2
        case enter f args =>
          refine h.mono fun e w'' he => ?_
          cases e with
          | returned v => exact ⟨v, rfl, he⟩
          | panicked c => exact he.elim
          | outgrown => obtain ⟨_, _, hq⟩ := he; exact hq.elim
        case row row args => exact h
      | halt x w' => cases x <;> simp only [Oper.upon, OnK] at h
    · obtain ⟨_, _, hq⟩ := h; exact hq.elim
  · rename_i hw
    rw [if_neg hw]
    unfold wpList at h
    exact h
/-- The only operation that may come up now: walked as it stands. -/
def Solo (P : Program) (ops : Array Oper) (Q : Act → World → Prop) (fuel : Nat) (listed : Array Bool) (df : List Deferred) (w0 : World) (a' : Act) (w' : World) : Prop :=
  a'.defers = df ∧ RowKit.Below w0.heap.size w0 w' ∧ Any P ops Q fuel listed a' w'
theorem Any.solo {i : Nat} {oi : Oper} {fuel : Nat} {listed : Array Bool} {a : Act} {w0 : World} (hi : ops[i]? = some oi) (hr : (Region.ready .any ops listed == [i]) = true)
    (h : ∀ w, RowKit.Below w0.heap.size w0 w → wpList P ops (OnK (Solo P ops Q fuel (listed.setIfInBounds i true) a.defers w0)) [oi] a w) : Any P ops Q (fuel + 1) listed a w0 := by
  intro w hw
  have hr' : Region.ready .any ops listed = [i] := by simpa using hr
  refine ⟨fun h0 => (by rw [hr'] at h0; cases h0), fun j hj => ?_⟩
  rw [hr'] at hj
  obtain rfl : j = i := by simpa using hj
  have h1 := okOp_of_wp (fun a' w' hk => hk.1) (h w hw)
  unfold okStep
  simp only [hi]
  split
  · rename_i hw1
    rw [if_pos hw1] at h1
    exact okOp_mono (fun v w' ⟨_, h2, h3⟩ => ⟨h2, h3.again h2⟩) h1
  · rename_i hw1
    rw [if_neg hw1] at h1
    exact ⟨h1.2.1, h1.2.2.again h1.2.1⟩
end
end Go.Proofs.YtbcpmnnlhdgbhaaGreatDoor

namespace Go.Proofs.YtbcpmnnlhdgbhaaGreatDoor
section
variable {P : Program} {ops : Array Oper} {md : Region.Mode} {C : World → Prop} {Q : Act → World → Prop} {zs : List Nat}

def noZ (zs : List Nat) (L : Array Bool) : Prop := ∀ z ∈ zs, L.getD z false = false
def DC (md : Region.Mode) (ops : Array Oper) (L : Array Bool) : Prop := ∀ (k : Nat) (o : Oper), ops[k]? = some o → L.getD k false = true → ∀ e ∈ o.after, Region.binds md e = true → L.getD e.on false = true
def reachB (md : Region.Mode) (ops : Array Oper) : Nat → Nat → Nat → Bool
  | 0, _, _ => false
  | n + 1, i, z => match ops[z]? with | none => false | some o => o.after.any fun e => Region.binds md e && (e.on == i || reachB md ops n i e.on)
theorem reach_listed {L : Array Bool} (hD : DC md ops L) {i : Nat} : ∀ (n z : Nat), reachB md ops n i z = true → L.getD z false = true → L.getD i false = true
  | 0, _, h, _ => by cases h
  | n + 1, z, h, hz => by
    unfold reachB at h
    split at h
    · cases h
    · rename_i o ho
      obtain ⟨e, he, hb⟩ := Array.any_eq_true'.1 h
      simp only [Bool.and_eq_true, Bool.or_eq_true, beq_iff_eq] at hb
      have h1 := hD z o ho hz e he hb.1
      rcases hb.2 with rfl | h2
      · exact h1
      · exact reach_listed hD n e.on h2 h1
theorem DC.step {L : Array Bool} (hD : DC md ops L) {j : Nat} (hj : j ∈ Region.ready md ops L) : DC md ops (L.setIfInBounds j true) := by
  intro k o ho hk e he hb
  have hmono : ∀ m, L.getD m false = true → (L.setIfInBounds j true).getD m false = true := by
    intro m hm
    by_cases hmj : j = m
    · subst hmj
      rw [Array.getD_eq_getD_getElem?] at hm ⊢
      rcases Nat.lt_or_ge j L.size with h' | h'
      · simp [h']
      · simp [Array.getElem?_eq_none h'] at hm
    · rw [getD_set_ne false hmj]; exact hm
  by_cases hkj : j = k
  · subst hkj
    obtain ⟨_, oj, hoj, hall⟩ := mem_ready.1 hj
    rw [ho] at hoj; cases hoj
    exact hmono _ (hall e he hb)
  · rw [getD_set_ne false hkj] at hk
    exact hmono _ (hD k o ho hk e he hb)
theorem noZ.of_set {L : Array Bool} {j : Nat} (h : noZ zs (L.setIfInBounds j true)) : noZ zs L := fun z hz => by
  have h1 := h z hz
  by_cases hzj : j = z
  · subst hzj
    rw [Array.getD_eq_getD_getElem?] at h1 ⊢
    rcases Nat.lt_or_ge j L.size with h' | h'
    · simp [h'] at h1
    · simp [Array.getElem?_eq_none h']
  · rwa [getD_set_ne false hzj] at h1
theorem noZ.set {L : Array Bool} {j : Nat} (h : noZ zs L) (hj : j ∉ zs) : noZ zs (L.setIfInBounds j true) := fun z hz => by
  rw [getD_set_ne false (fun e => hj (by rw [e]; exact hz))]; exact h z hz

/-- Whatever order is picked from here on; every world on the way is one of the class, as long as none of 'zs' has come up. -/
def anyZ (P : Program) (md : Region.Mode) (ops : Array Oper) (zs : List Nat) (C : World → Prop) (Q : Act → World → Prop) : Nat → Array Bool → Act → World → Prop
  | 0, listed, a, w => Region.ready md ops listed = [] ∧ Q a w
  | fuel + 1, listed, a, w =>
    (Region.ready md ops listed = [] → Q a w) ∧
    ∀ i ∈ Region.ready md ops listed, okStep P ops i (fun a' w' => (noZ zs (listed.setIfInBounds i true) → C w') ∧ anyZ P md ops zs C Q fuel (listed.setIfInBounds i true) a' w') a w
theorem wpAny_of_anyZ {Q' : Exit → Act → World → Prop} (hQ : ∀ a w, Q a w → Q' .normal a w) : ∀ (fuel : Nat) (listed : Array Bool) (a : Act) (w : World),
    anyZ P md ops zs C Q fuel listed a w → wpAny P md ops Q' fuel listed a w
  | 0, _, _, _, h => ⟨h.1, hQ _ _ h.2⟩
  | fuel + 1, _, _, _, h => ⟨fun h0 => hQ _ _ (h.1 h0), fun i hi => wpOp_of_okStep (okStep_mono (fun a' w' h' => wpAny_of_anyZ hQ fuel _ a' w' h'.2) (h.2 i hi))⟩
theorem anyZ_mono {C' : World → Prop} : ∀ (fuel : Nat) (listed : Array Bool) (a : Act) (w : World), (noZ zs listed → ∀ w, C w → C' w) → anyZ P md ops zs C Q fuel listed a w → anyZ P md ops zs C' Q fuel listed a w
  | 0, _, _, _, _, hh => hh
  | fuel + 1, _, _, _, h, hh => ⟨hh.1, fun i hi => okStep_mono (fun a' w' ⟨h1, h2⟩ => ⟨fun hn => h hn.of_set _ (h1 hn), anyZ_mono fuel _ a' w' (fun hn => h hn.of_set) h2⟩) (hh.2 i hi)⟩

theorem anyZ_first {C' : World → Prop} {i : Nat} {oi : Oper} {v : Value} (hi : ops[i]? = some oi) (hsel : ∀ (j : Nat) (o : Oper) cs b, ops[j]? = some o → o.op ≠ .select cs b) (hz : i ∉ zs)
    (hcl : ∀ (L : Array Bool) w, DC md ops L → L.getD i true = false → (noZ zs L → C w) → C' w) :
    ∀ (fuel : Nat) (listed : Array Bool) (a : Act), DC md ops listed →
      (∀ j oj, ops[j]? = some oj → j ≠ i → listed.getD j true = false → (∀ e ∈ oj.after, Region.binds md e = true → e.on ≠ i) → oi.apart ops oj = true) →
      i ∈ Region.ready md ops listed → YieldsC P ops C' oi v a → ∀ w, (noZ zs listed → C w) →
      anyZ P md ops zs C Q fuel (listed.setIfInBounds i true) (a.put oi.dst v) w → anyZ P md ops zs C Q (fuel + 1) listed a w := by
  intro fuel
  induction fuel with
  | zero =>
    intro listed a hD _ hr hy w hC H
    refine ⟨fun h => (by rw [h] at hr; cases hr), fun j hj => ?_⟩
    by_cases hji : j = i
    · subst hji; exact hy.step hi (hcl listed w hD (mem_ready.1 hr).1 hC) ⟨fun hn => hC hn.of_set, H⟩
    · have := ready_mono hj hji
      rw [H.1] at this
      cases this
  | succ fuel ih =>
    intro listed a hD hfree hr hy w hC H
    refine ⟨fun h => (by rw [h] at hr; cases hr), fun j hj => ?_⟩
    by_cases hji : j = i
    · subst hji; exact hy.step hi (hcl listed w hD (mem_ready.1 hr).1 hC) ⟨fun hn => hC hn.of_set, H⟩
    · have h1 := H.2 j (ready_mono hj hji)
      obtain ⟨hjun, oj, hoj, hall⟩ := mem_ready.1 hj
      have hnot : ∀ e ∈ oj.after, Region.binds md e = true → e.on ≠ i := fun e he hb heq => by
        have h1 := hall e he hb
        have h0 := (mem_ready.1 hr).1
        rw [heq] at h1
        rcases Nat.lt_or_ge i listed.size with h' | h'
        · simp [h'] at h0 h1; rw [h0] at h1; cases h1
        · simp [Array.getElem?_eq_none h'] at h1
      have h2 := okStep_put hoj (hfree j oj hoj hji hjun hnot) (fun cs b => hsel i oi cs b hi) (fun cs b => hsel j oj cs b hoj) hy h1
      have hfree' : ∀ k ok, ops[k]? = some ok → k ≠ i → (listed.setIfInBounds j true).getD k true = false →
          (∀ e ∈ ok.after, Region.binds md e = true → e.on ≠ i) → oi.apart ops ok = true := fun k ok hk hki hun hno => by
        refine hfree k ok hk hki ?_ hno
        by_cases hjk : j = k
        · subst hjk; exact hjun
        · rw [getD_set_ne true hjk] at hun; exact hun
      refine okStep_mono (fun a' w' h3 => ?_) h2
      have hC' : noZ zs (listed.setIfInBounds j true) → C w' := fun hn => h3.2.1 (by rw [Array.setIfInBounds_comm _ _ (Ne.symm hji)]; exact hn.set hz)
      refine ⟨hC', ih (listed.setIfInBounds j true) a' (hD.step hj) hfree' (ready_mono hr (Ne.symm hji)) h3.1 w' hC' ?_⟩
      rw [Array.setIfInBounds_comm _ _ hji]
      exact h3.2.2

/-- Operation number i, walked in whatever world of its class C', leaves that world and the frame a'. -/
theorem take_walkZ {C' : World → Prop} {i : Nat} {oi : Oper} {fuel : Nat} {listed : Array Bool} {a a' : Act} {w0 : World} (hi : ops[i]? = some oi)
    (hB : (Region.noSelect ops && (Region.free md ops listed i && (Region.ready md ops listed).contains i)) = true) (hz : i ∉ zs) (hw0 : C' w0)
    (hcl : ∀ (L : Array Bool) w, DC md ops L → L.getD i true = false → (noZ zs L → C w) → C' w) (hD : DC md ops listed)
    (hd : (match oi.dst with | some d => decide (d < a.tmps.size) | none => false) = true)
    (hv : ∀ w, C' w → ∀ K : Act → World → Prop, K a' w → wpList P ops (OnK K) [oi] a w) (hdf : a'.defers = a.defers) :
    ∀ w, (noZ zs listed → C w) → anyZ P md ops zs C Q fuel (listed.setIfInBounds i true) a' w → anyZ P md ops zs C Q (fuel + 1) listed a w := by
  rw [Bool.and_eq_true, Bool.and_eq_true] at hB
  obtain ⟨hsel, hfree, hrd⟩ := hB
  have hrd' : i ∈ Region.ready md ops listed := by simpa using hrd
  -- what the walk shows
  have key : ∀ w, C' w → if Region.wanted oi (yielded ops a.tmps) then okOp P oi a w (fun u w' => a.put oi.dst u = a' ∧ w' = w) else a.put oi.dst undef = a' := by
    intro w hC
    have h1 := okOp_of_wp (P := P) (ops := ops) (o := oi) (a := a) (w := w) (K := fun x y => x = a' ∧ y = w) (fun x y hk => by rw [hk.1, hdf]) (hv w hC _ ⟨rfl, rfl⟩)
    split
    · rename_i hw; rw [if_pos hw] at h1; exact h1
    · rename_i hw; rw [if_neg hw] at h1; exact h1.1
  -- one value for all worlds
  have hval : ∃ v, a' = a.put oi.dst v := by
    have h1 := key w0 hw0
    split at h1
    · unfold okOp at h1
      generalize (execOp a.eval oi).run P w0 = r at *
      cases r with
      | ok n w' =>
        cases n <;> simp only [okUpon] at h1
        case value v => exact ⟨v, h1.1.symm⟩
        case skip => exact ⟨undef, h1.1.symm⟩
        case enter f args =>
          obtain ⟨e, w'', fr, ⟨v, _, hv, _⟩, _⟩ := h1 []
          exact ⟨v, hv.symm⟩
        case row row args =>
          obtain ⟨v, w'', ⟨hv, _⟩, _⟩ := h1 default []
          exact ⟨v, hv.symm⟩
      | halt x w' => simp only [okUpon] at h1
    · exact ⟨undef, h1.symm⟩
  obtain ⟨v, rfl⟩ := hval
  cases hdd : oi.dst with
  | none => rw [hdd] at hd; cases hd
  | some d =>
    have hinj : ∀ u, a.put oi.dst u = a.put oi.dst v → u = v := by
      intro u hu
      rw [hdd] at hu hd
      have hd' : d < a.tmps.size := by simpa using hd
      have h1 : (a.put (some d) u).tmps[d]? = (a.put (some d) v).tmps[d]? := by rw [hu]
      simpa [Act.put, hd'] using h1
    intro w hC H
    refine anyZ_first (C' := C') (v := v) hi (Region.noSelect_spec hsel) hz hcl fuel listed a hD (Region.free_spec hi hfree) hrd' ?_ w hC (by rw [hdd]; exact H)
    by_cases hw : Region.wanted oi (yielded ops a.tmps) = true
    · refine .inl ⟨hw, fun w1 hC1 => ?_⟩
      have h1 := key w1 hC1
      rw [if_pos hw] at h1
      exact okOp_mono (fun u w2 ⟨e1, e2⟩ => ⟨hinj u e1, e2⟩) h1
    · refine .inr ⟨by simpa using hw, ?_⟩
      have h1 := key w0 hw0
      rw [if_neg hw] at h1
      exact (hinj undef h1).symm
theorem noZ_of_reach {L : Array Bool} {i : Nat} (hD : DC md ops L) (hun : L.getD i true = false) (hr : zs.all (reachB md ops ops.size i) = true) : noZ zs L := fun z hz => by
  cases h : L.getD z false with
  | false => rfl
  | true =>
    have h1 := reach_listed hD ops.size z (List.all_eq_true.1 hr z hz) h
    rw [Array.getD_eq_getD_getElem?] at h1 hun
    rcases Nat.lt_or_ge i L.size with h' | h'
    · simp [h'] at h1 hun; rw [h1] at hun; cases hun
    · simp [Array.getElem?_eq_none h'] at h1

/-- As long as none of 'zs' has come up: in whatever world that has only grown since w0. -/
def AnyZ (P : Program) (ops : Array Oper) (zs : List Nat) (Q : Act → World → Prop) (fuel : Nat) (listed : Array Bool) (a : Act) (w0 : World) : Prop :=
  DC .any ops listed → ∀ w, RowKit.Below w0.heap.size w0 w → anyZ P .any ops zs (fun w => RowKit.Below w0.heap.size w0 w) Q fuel listed a w
/-- In this world, whatever comes of it. -/
def AnyW (P : Program) (ops : Array Oper) (zs : List Nat) (Q : Act → World → Prop) (fuel : Nat) (listed : Array Bool) (a : Act) (w : World) : Prop :=
  DC .any ops listed → anyZ P .any ops zs (fun _ => True) Q fuel listed a w

theorem AnyZ.start {id n : Nat} {Q' : Exit → Act → World → Prop} {a : Act} {w : World} {l : List Oper} (zs : List Nat) (hm : P.follows .mixedOrders = true) (hn : l.length = n)
    (h : AnyZ P l.toArray zs (fun a w => Q' .normal a w) n (Array.replicate n false) a w) : (Code.region id l.toArray true).wp P Q' a w := by
  subst hn
  have hD : DC .any l.toArray (Array.replicate l.length false) := fun k o _ hk => by
    rw [Array.getD_eq_getD_getElem?] at hk
    rcases Nat.lt_or_ge k l.length with h' | h'
    · simp [h'] at hk
    · simp [h'] at hk
  refine wp_region_any hm (wpAny_of_anyZ (zs := zs) (C := fun w' => RowKit.Below w.heap.size w w') (fun _ _ h => h) _ _ _ _ ?_)
  simpa using h hD { w with drawn := w.drawn + 1 } ⟨rfl, rfl, rfl, Nat.le_refl _, fun _ _ => rfl⟩
/-- A quiet operation that all of 'zs' wait for. -/
theorem AnyZ.take {i : Nat} {oi : Oper} {fuel : Nat} {listed : Array Bool} {a a' : Act} {w0 : World} (hi : ops[i]? = some oi)
    (hB : (Region.noSelect ops && (Region.free .any ops listed i && (Region.ready .any ops listed).contains i)) = true)
    (hZ : (zs.all (reachB .any ops ops.size i) && !zs.contains i) = true)
    (hd : (match oi.dst with | some d => decide (d < a.tmps.size) | none => false) = true)
    (hv : ∀ w, RowKit.Below w0.heap.size w0 w → ∀ K : Act → World → Prop, K a' w → wpList P ops (OnK K) [oi] a w) (hdf : a'.defers = a.defers)
    (h : AnyZ P ops zs Q fuel (listed.setIfInBounds i true) a' w0) : AnyZ P ops zs Q (fuel + 1) listed a w0 := by
  rw [Bool.and_eq_true] at hZ
  have hB' := hB
  rw [Bool.and_eq_true, Bool.and_eq_true] at hB'
  have hrd : i ∈ Region.ready .any ops listed := by simpa using hB'.2.2
  intro hD w hw
  exact take_walkZ (C := fun w => RowKit.Below w0.heap.size w0 w) (C' := fun w => RowKit.Below w0.heap.size w0 w) hi hB (by simpa using hZ.2) (RowKit.Below.refl _ _)
    (fun L w hDL hun hc => hc (noZ_of_reach hDL hun hZ.1)) hD hd hv hdf w (fun _ => hw) (h (hD.step hrd) w hw)
/-- A quiet operation that looks at no world. -/
theorem AnyZ.pure {i : Nat} {oi : Oper} {fuel : Nat} {listed : Array Bool} {a a' : Act} {w0 : World} (hi : ops[i]? = some oi)
    (hB : (Region.noSelect ops && (Region.free .any ops listed i && (Region.ready .any ops listed).contains i)) = true) (hZ : (!zs.contains i) = true)
    (hd : (match oi.dst with | some d => decide (d < a.tmps.size) | none => false) = true)
    (hv : ∀ w, ∀ K : Act → World → Prop, K a' w → wpList P ops (OnK K) [oi] a w) (hdf : a'.defers = a.defers)
    (h : AnyZ P ops zs Q fuel (listed.setIfInBounds i true) a' w0) : AnyZ P ops zs Q (fuel + 1) listed a w0 := by
  have hB' := hB
  rw [Bool.and_eq_true, Bool.and_eq_true] at hB'
  have hrd : i ∈ Region.ready .any ops listed := by simpa using hB'.2.2
  intro hD w hw
  exact take_walkZ (C := fun w => RowKit.Below w0.heap.size w0 w) (C' := fun _ => True) (w0 := w0) hi hB (by simpa using hZ) trivial (fun _ _ _ _ _ => trivial) hD hd (fun w _ => hv w) hdf w (fun _ => hw) (h (hD.step hrd) w hw)
theorem AnyW.pure {i : Nat} {oi : Oper} {fuel : Nat} {listed : Array Bool} {a a' : Act} {w : World} (hi : ops[i]? = some oi)
    (hB : (Region.noSelect ops && (Region.free .any ops listed i && (Region.ready .any ops listed).contains i)) = true) (hZ : (!zs.contains i) = true)
    (hd : (match oi.dst with | some d => decide (d < a.tmps.size) | none => false) = true)
    (hv : ∀ w, ∀ K : Act → World → Prop, K a' w → wpList P ops (OnK K) [oi] a w) (hdf : a'.defers = a.defers)
    (h : AnyW P ops zs Q fuel (listed.setIfInBounds i true) a' w) : AnyW P ops zs Q (fuel + 1) listed a w := by
  have hB' := hB
  rw [Bool.and_eq_true, Bool.and_eq_true] at hB'
  have hrd : i ∈ Region.ready .any ops listed := by simpa using hB'.2.2
  intro hD
  exact take_walkZ (C := fun _ => True) (C' := fun _ => True) (w0 := w) hi hB (by simpa using hZ) trivial (fun _ _ _ _ _ => trivial) hD hd (fun w _ => hv w) hdf w (fun _ => trivial) (h (hD.step hrd))
theorem AnyZ.again {fuel : Nat} {listed : Array Bool} {a : Act} {w0 w : World} (hD : DC .any ops listed) (hw : RowKit.Below w0.heap.size w0 w) (h : AnyZ P ops zs Q fuel listed a w) : anyZ P .any ops zs (fun w => RowKit.Below w0.heap.size w0 w) Q fuel listed a w :=
  anyZ_mono _ _ _ _ (fun _ _ h' => hw.trans (h'.mono hw.size)) (h hD w (RowKit.Below.refl _ _))
/-- The only operation that may come up now: walked as it stands; it only makes memory. -/
def SoloZ (P : Program) (ops : Array Oper) (zs : List Nat) (Q : Act → World → Prop) (fuel : Nat) (listed : Array Bool) (df : List Deferred) (w0 : World) (a' : Act) (w' : World) : Prop :=
  a'.defers = df ∧ RowKit.Below w0.heap.size w0 w' ∧ AnyZ P ops zs Q fuel listed a' w'
theorem AnyZ.solo {i : Nat} {oi : Oper} {fuel : Nat} {listed : Array Bool} {a : Act} {w0 : World} (hi : ops[i]? = some oi) (hr : (Region.ready .any ops listed == [i]) = true)
    (h : ∀ w, RowKit.Below w0.heap.size w0 w → wpList P ops (OnK (SoloZ P ops zs Q fuel (listed.setIfInBounds i true) a.defers w0)) [oi] a w) : AnyZ P ops zs Q (fuel + 1) listed a w0 := by
  intro hD w hw
  have hr' : Region.ready .any ops listed = [i] := by simpa using hr
  have hD' := hD.step (j := i) (by rw [hr']; simp)
  refine ⟨fun h0 => (by rw [hr'] at h0; cases h0), fun j hj => ?_⟩
  rw [hr'] at hj
  obtain rfl : j = i := by simpa using hj
  have h1 := okOp_of_wp (fun a' w' hk => hk.1) (h w hw)
  unfold okStep
  simp only [hi]
  split
  · rename_i hw1
    rw [if_pos hw1] at h1
    exact okOp_mono (fun v w' ⟨_, h2, h3⟩ => ⟨fun _ => h2, h3.again hD' h2⟩) h1
  · rename_i hw1
    rw [if_neg hw1] at h1
    exact ⟨fun _ => h1.2.1, h1.2.2.again hD' h1.2.1⟩
/-- The only one that may come up now, one of 'zs': walked as it stands; whatever it turns. -/
def SoloW (P : Program) (ops : Array Oper) (zs : List Nat) (Q : Act → World → Prop) (fuel : Nat) (listed : Array Bool) (df : List Deferred) (a' : Act) (w' : World) : Prop :=
  a'.defers = df ∧ AnyW P ops zs Q fuel listed a' w'
theorem AnyW.again {fuel : Nat} {listed : Array Bool} {a : Act} {w : World} (hD : DC .any ops listed) (hn : ¬ noZ zs listed) (h : AnyW P ops zs Q fuel listed a w) : anyZ P .any ops zs C Q fuel listed a w :=
  anyZ_mono _ _ _ _ (fun h' => absurd h' hn) (h hD)
theorem no_noZ {listed : Array Bool} {i : Nat} (hz : i ∈ zs) (hi : i ∈ Region.ready md ops listed) : ¬ noZ zs (listed.setIfInBounds i true) := fun h => by
  have h1 := h i hz
  have h0 := (mem_ready.1 hi).1
  rw [Array.getD_eq_getD_getElem?] at h1 h0
  rcases Nat.lt_or_ge i listed.size with h' | h'
  · simp [h'] at h1
  · simp [Array.getElem?_eq_none h'] at h0
theorem AnyZ.soloW {i : Nat} {oi : Oper} {fuel : Nat} {listed : Array Bool} {a : Act} {w0 : World} (hi : ops[i]? = some oi) (hr : (Region.ready .any ops listed == [i] && zs.contains i) = true)
    (h : ∀ w, RowKit.Below w0.heap.size w0 w → wpList P ops (OnK (SoloW P ops zs Q fuel (listed.setIfInBounds i true) a.defers)) [oi] a w) : AnyZ P ops zs Q (fuel + 1) listed a w0 := by
  intro hD w hw
  rw [Bool.and_eq_true] at hr
  have hr' : Region.ready .any ops listed = [i] := by simpa using hr.1
  have hir : i ∈ Region.ready .any ops listed := by rw [hr']; simp
  have hnz := no_noZ (zs := zs) (by simpa using hr.2) hir
  refine ⟨fun h0 => (by rw [hr'] at h0; cases h0), fun j hj => ?_⟩
  rw [hr'] at hj
  obtain rfl : j = i := by simpa using hj
  have h1 := okOp_of_wp (fun a' w' hk => hk.1) (h w hw)
  unfold okStep
  simp only [hi]
  split
  · rename_i hw1
    rw [if_pos hw1] at h1
    exact okOp_mono (fun v w' ⟨_, h3⟩ => ⟨fun hn => absurd hn hnz, h3.again (hD.step hir) hnz⟩) h1
  · rename_i hw1
    rw [if_neg hw1] at h1
    exact ⟨fun hn => absurd hn hnz, h1.2.again (hD.step hir) hnz⟩
theorem AnyW.solo {i : Nat} {oi : Oper} {fuel : Nat} {listed : Array Bool} {a : Act} {w : World} (hi : ops[i]? = some oi) (hr : (Region.ready .any ops listed == [i]) = true)
    (h : wpList P ops (OnK (SoloW P ops zs Q fuel (listed.setIfInBounds i true) a.defers)) [oi] a w) : AnyW P ops zs Q (fuel + 1) listed a w := by
  intro hD
  have hr' : Region.ready .any ops listed = [i] := by simpa using hr
  have hir : i ∈ Region.ready .any ops listed := by rw [hr']; simp
  refine ⟨fun h0 => (by rw [hr'] at h0; cases h0), fun j hj => ?_⟩
  rw [hr'] at hj
  obtain rfl : j = i := by simpa using hj
  have h1 := okOp_of_wp (fun a' w' hk => hk.1) h
  unfold okStep
  simp only [hi]
  split
  · rename_i hw1
    rw [if_pos hw1] at h1
    exact okOp_mono (fun v w' ⟨_, h3⟩ => ⟨fun _ => trivial, h3 (hD.step hir)⟩) h1
  · rename_i hw1
    rw [if_neg hw1] at h1
    exact ⟨fun _ => trivial, h1.2 (hD.step hir)⟩
theorem AnyW.done {listed : Array Bool} {a : Act} {w : World} (hr : (Region.ready .any ops listed).isEmpty = true) (h : Q a w) : AnyW P ops zs Q 0 listed a w :=
  fun _ => ⟨by simpa using hr, h⟩
theorem AnyZ.done {listed : Array Bool} {a : Act} {w0 : World} (hr : (Region.ready .any ops listed).isEmpty = true) (h : ∀ w, RowKit.Below w0.heap.size w0 w → Q a w) : AnyZ P ops zs Q 0 listed a w0 :=
  fun _ w hw => ⟨by simpa using hr, h w hw⟩
end
end Go.Proofs.YtbcpmnnlhdgbhaaGreatDoor

namespace Go.Proofs.YtbcpmnnlhdgbhaaGreatDoor
section
variable {P : Program} {ops : Array Oper} {Q : Act → World → Prop} {C : World → Prop}
def AnyC (P : Program) (ops : Array Oper) (C : World → Prop) (Q : Act → World → Prop) (fuel : Nat) (listed : Array Bool) (a : Act) (w : World) : Prop :=
  DC .any ops listed → C w ∧ anyZ P .any ops [] C Q fuel listed a w
theorem AnyC.start {id n : Nat} {Q' : Exit → Act → World → Prop} {a : Act} {w : World} {l : List Oper} (C : World → Prop) (hm : P.follows .mixedOrders = true) (hn : l.length = n)
    (h : AnyC P l.toArray C (fun a w => Q' .normal a w) n (Array.replicate n false) a { w with drawn := w.drawn + 1 }) : (Code.region id l.toArray true).wp P Q' a w := by
  subst hn
  have hD : DC .any l.toArray (Array.replicate l.length false) := fun k o _ hk => by
    rw [Array.getD_eq_getD_getElem?] at hk
    rcases Nat.lt_or_ge k l.length with h' | h'
    · simp [h'] at hk
    · simp [h'] at hk
  refine wp_region_any hm (wpAny_of_anyZ (zs := []) (C := C) (fun _ _ h => h) _ _ _ _ ?_)
  simpa using (h hD).2
theorem AnyC.take {i : Nat} {oi : Oper} {fuel : Nat} {listed : Array Bool} {a a' : Act} {w : World} (hi : ops[i]? = some oi)
    (hB : (Region.noSelect ops && (Region.free .any ops listed i && (Region.ready .any ops listed).contains i)) = true)
    (hd : (match oi.dst with | some d => decide (d < a.tmps.size) | none => false) = true)
    (hv : ∀ w, C w → ∀ K : Act → World → Prop, K a' w → wpList P ops (OnK K) [oi] a w) (hdf : a'.defers = a.defers)
    (h : AnyC P ops C Q fuel (listed.setIfInBounds i true) a' w) : AnyC P ops C Q (fuel + 1) listed a w := by
  have hB' := hB
  rw [Bool.and_eq_true, Bool.and_eq_true] at hB'
  have hrd : i ∈ Region.ready .any ops listed := by simpa using hB'.2.2
  intro hD
  have h1 := h (hD.step hrd)
  exact ⟨h1.1, take_walkZ (zs := []) (C := C) (C' := C) hi hB (by simp) h1.1
    (fun L w _ _ hc => hc (fun z hz => by cases hz)) hD hd hv hdf w (fun _ => h1.1) h1.2⟩
def SoloC (P : Program) (ops : Array Oper) (C : World → Prop) (Q : Act → World → Prop) (fuel : Nat) (listed : Array Bool) (df : List Deferred) (a' : Act) (w' : World) : Prop :=
  a'.defers = df ∧ AnyC P ops C Q fuel listed a' w'
theorem AnyC.solo {i : Nat} {oi : Oper} {fuel : Nat} {listed : Array Bool} {a : Act} {w : World} (hi : ops[i]? = some oi) (hr : (Region.ready .any ops listed == [i]) = true) (hb : C w)
    (h : wpList P ops (OnK (SoloC P ops C Q fuel (listed.setIfInBounds i true) a.defers)) [oi] a w) : AnyC P ops C Q (fuel + 1) listed a w := by
  intro hD
  have hr' : Region.ready .any ops listed = [i] := by simpa using hr
  have hir : i ∈ Region.ready .any ops listed := by rw [hr']; simp
  refine ⟨hb, fun h0 => (by rw [hr'] at h0; cases h0), fun j hj => ?_⟩
  rw [hr'] at hj
  obtain rfl : j = i := by simpa using hj
  have h1 := okOp_of_wp (fun a' w' hk => hk.1) h
  unfold okStep
  simp only [hi]
  split
  · rename_i hw1
    rw [if_pos hw1] at h1
    exact okOp_mono (fun v w' ⟨_, h3⟩ => ⟨fun _ => (h3 (hD.step hir)).1, (h3 (hD.step hir)).2⟩) h1
  · rename_i hw1
    rw [if_neg hw1] at h1
    exact ⟨fun _ => (h1.2 (hD.step hir)).1, (h1.2 (hD.step hir)).2⟩
theorem AnyC.done {listed : Array Bool} {a : Act} {w : World} (hb : C w) (hr : (Region.ready .any ops listed).isEmpty = true) (h : Q a w) : AnyC P ops C Q 0 listed a w :=
  fun _ => ⟨hb, by simpa using hr, h⟩
end
end Go.Proofs.YtbcpmnnlhdgbhaaGreatDoor
