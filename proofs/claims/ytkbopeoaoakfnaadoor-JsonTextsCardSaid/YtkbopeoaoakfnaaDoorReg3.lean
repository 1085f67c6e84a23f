/- A region that draws its order and ends in operations that turn what its quiet ones read: the class of worlds is asked for only as long as none of those ('zs') has come up. No conditions. -/
import Derived.Test.YtkbopeoaoakfnaaDoorReg
namespace Go.Proofs.YtkbopeoaoakfnaaDoor
section
variable {P : Program} {ops : Array Oper} {md : Region.Mode} {C : World → Prop} {Q : Act → World → Prop} {zs : List Nat}

def noZ (zs : List Nat) (L : Array Bool) : Prop := ∀ z ∈ zs, L.getD z false = false
def DC (md : Region.Mode) (ops : Array Oper) (L : Array Bool) : Prop := ∀ (k : Nat) (o : Oper), ops[k]? = some o → L.getD k false = true → ∀ e ∈ o.after, Region.binds md e = true → L.getD e.on false = true
def reachB (md : Region.Mode) (ops : Array Oper) : Nat → Nat → Nat → Bool
  | 0, _, _ => false
  | n + 1, i, z => match ops[z]? with | none => false | some o => o.after.any fun e => Region.binds md e && (e.on == i || reachB md ops n i e.on)
theorem reach_listed {L : Array Bool} (hD : DC md ops L) {i : Nat} : ∀ (n z : Nat), reachB md ops n i z = true → L.getD z false = true → L.getD i false = true
  | 0, _, h, _ => by cases h
  | n + 1, z, h, hz => by
    unfold reachB at h
    split at h
    · cases h
    · rename_i o ho
      obtain ⟨e, he, hb⟩ := Array.any_eq_true'.1 h
      simp only [Bool.and_eq_true, Bool.or_eq_true, beq_iff_eq] at hb
      have h1 := hD z o ho hz e he hb.1
      rcases hb.2 with rfl | h2
      · exact h1
      · exact reach_listed hD n e.on h2 h1
theorem DC.step {L : Array Bool} (hD : DC md ops L) {j : Nat} (hj : j ∈ Region.ready md ops L) : DC md ops (L.setIfInBounds j true) := by
  intro k o ho hk e he hb
  have hmono : ∀ m, L.getD m false = true → (L.setIfInBounds j true).getD m false = true := by
    intro m hm
    by_cases hmj : j = m
    · subst hmj
      rw [Array.getD_eq_getD_getElem?] at hm ⊢
      rcases Nat.lt_or_ge j L.size with h' | h'
      · simp [h']
      · simp [Array.getElem?_eq_none h'] at hm
    · rw [getD_set_ne false hmj]; exact hm
  by_cases hkj : j = k
  · subst hkj
    obtain ⟨_, oj, hoj, hall⟩ := mem_ready.1 hj
    rw [ho] at hoj; cases hoj
    exact hmono _ (hall e he hb)
  · rw [getD_set_ne false hkj] at hk
    exact hmono _ (hD k o ho hk e he hb)
theorem noZ.of_set {L : Array Bool} {j : Nat} (h : noZ zs (L.setIfInBounds j true)) : noZ zs L := fun z hz => by
  have h1 := h z hz
  by_cases hzj : j = z
  · subst hzj
    rw [Array.getD_eq_getD_getElem?] at h1 ⊢
    rcases Nat.lt_or_ge j L.size with h' | h'
    · simp [h'] at h1
    · simp [Array.getElem?_eq_none h']
  · rwa [getD_set_ne false hzj] at h1
theorem noZ.set {L : Array Bool} {j : Nat} (h : noZ zs L) (hj : j ∉ zs) : noZ zs (L.setIfInBounds j true) := fun z hz => by
  rw [getD_set_ne false (fun e => hj (by rw [e]; exact hz))]; exact h z hz

/-- Whatever order is picked from here on; every world on the way is one of the class, as long as none of 'zs' has come up. -/
def anyZ (P : Program) (md : Region.Mode) (ops : Array Oper) (zs : List Nat) (C : World → Prop) (Q : Act → World → Prop) : Nat → Array Bool → Act → World → Prop
  | 0, listed, a, w => Region.ready md ops listed = [] ∧ Q a w
  | fuel + 1, listed, a, w =>
    (Region.ready md ops listed = [] → Q a w) ∧
    ∀ i ∈ Region.ready md ops listed, okStep P ops i (fun a' w' => (noZ zs (listed.setIfInBounds i true) → C w') ∧ anyZ P md ops zs C Q fuel (listed.setIfInBounds i true) a' w') a w
theorem wpAny_of_anyZ {Q' : Exit → Act → World → Prop} (hQ : ∀ a w, Q a w → Q' .normal a w) : ∀ (fuel : Nat) (listed : Array Bool) (a : Act) (w : World),
    anyZ P md ops zs C Q fuel listed a w → wpAny P md ops Q' fuel listed a w
  | 0, _, _, _, h => ⟨h.1, hQ _ _ h.2⟩
  | fuel + 1, _, _, _, h => ⟨fun h0 => hQ _ _ (h.1 h0), fun i hi => wpOp_of_okStep (okStep_mono (fun a' w' h' => wpAny_of_anyZ hQ fuel _ a' w' h'.2) (h.2 i hi))⟩
theorem anyZ_mono {C' : World → Prop} : ∀ (fuel : Nat) (listed : Array Bool) (a : Act) (w : World), (noZ zs listed → ∀ w, C w → C' w) → anyZ P md ops zs C Q fuel listed a w → anyZ P md ops zs C' Q fuel listed a w
  | 0, _, _, _, _, hh => hh
  | fuel + 1, _, _, _, h, hh => ⟨hh.1, fun i hi => okStep_mono (fun a' w' ⟨h1, h2⟩ => ⟨fun hn => h hn.of_set _ (h1 hn), anyZ_mono fuel _ a' w' (fun hn => h hn.of_set) h2⟩) (hh.2 i hi)⟩

theorem anyZ_first {C' : World → Prop} {i : Nat} {oi : Oper} {v : Value} (hi : ops[i]? = some oi) (hsel : ∀ (j : Nat) (o : Oper) cs b, ops[j]? = some o → o.op ≠ .select cs b) (hz : i ∉ zs)
    (hcl : ∀ (L : Array Bool) w, DC md ops L → L.getD i true = false → (noZ zs L → C w) → C' w) :
    ∀ (fuel : Nat) (listed : Array Bool) (a : Act), DC md ops listed →
      (∀ j oj, ops[j]? = some oj → j ≠ i → listed.getD j true = false → (∀ e ∈ oj.after, Region.binds md e = true → e.on ≠ i) → oi.apart ops oj = true) →
      i ∈ Region.ready md ops listed → YieldsC P ops C' oi v a → ∀ w, (noZ zs listed → C w) →
      anyZ P md ops zs C Q fuel (listed.setIfInBounds i true) (a.put oi.dst v) w → anyZ P md ops zs C Q (fuel + 1) listed a w := by
  intro fuel
  induction fuel with
  | zero =>
    intro listed a hD _ hr hy w hC H
    refine ⟨fun h => (by rw [h] at hr; cases hr), fun j hj => ?_⟩
    by_cases hji : j = i
    · subst hji; exact hy.step hi (hcl listed w hD (mem_ready.1 hr).1 hC) ⟨fun hn => hC hn.of_set, H⟩
    · have := ready_mono hj hji
      rw [H.1] at this
      cases this
  | succ fuel ih =>
    intro listed a hD hfree hr hy w hC H
    refine ⟨fun h => (by rw [h] at hr; cases hr), fun j hj => ?_⟩
    by_cases hji : j = i
    · subst hji; exact hy.step hi (hcl listed w hD (mem_ready.1 hr).1 hC) ⟨fun hn => hC hn.of_set, H⟩
    · have h1 := H.2 j (ready_mono hj hji)
      obtain ⟨hjun, oj, hoj, hall⟩ := mem_ready.1 hj
      have hnot : ∀ e ∈ oj.after, Region.binds md e = true → e.on ≠ i := fun e he hb heq => by
        have h1 := hall e he hb
        have h0 := (mem_ready.1 hr).1
        rw [heq] at h1
        rcases Nat.lt_or_ge i listed.size with h' | h'
        · simp [h'] at h0 h1; rw [h0] at h1; cases h1
        · simp [Array.getElem?_eq_none h'] at h1
      have h2 := okStep_put hoj (hfree j oj hoj hji hjun hnot) (fun cs b => hsel i oi cs b hi) (fun cs b => hsel j oj cs b hoj) hy h1
      have hfree' : ∀ k ok, ops[k]? = some ok → k ≠ i → (listed.setIfInBounds j true).getD k true = false →
          (∀ e ∈ ok.after, Region.binds md e = true → e.on ≠ i) → oi.apart ops ok = true := fun k ok hk hki hun hno => by
        refine hfree k ok hk hki ?_ hno
        by_cases hjk : j = k
        · subst hjk; exact hjun
        · rw [getD_set_ne true hjk] at hun; exact hun
      refine okStep_mono (fun a' w' h3 => ?_) h2
      have hC' : noZ zs (listed.setIfInBounds j true) → C w' := fun hn => h3.2.1 (by rw [Array.setIfInBounds_comm _ _ (Ne.symm hji)]; exact hn.set hz)
      refine ⟨hC', ih (listed.setIfInBounds j true) a' (hD.step hj) hfree' (ready_mono hr (Ne.symm hji)) h3.1 w' hC' ?_⟩
      rw [Array.setIfInBounds_comm _ _ hji]
      exact h3.2.2

/-- Operation number i, walked in whatever world of its class C', leaves that world and the frame a'. -/
theorem take_walkZ {C' : World → Prop} {i : Nat} {oi : Oper} {fuel : Nat} {listed : Array Bool} {a a' : Act} {w0 : World} (hi : ops[i]? = some oi)
    (hB : (Region.noSelect ops && (Region.free md ops listed i && (Region.ready md ops listed).contains i)) = true) (hz : i ∉ zs) (hw0 : C' w0)
    (hcl : ∀ (L : Array Bool) w, DC md ops L → L.getD i true = false → (noZ zs L → C w) → C' w) (hD : DC md ops listed)
    (hd : (match oi.dst with | some d => decide (d < a.tmps.size) | none => false) = true)
    (hv : ∀ w, C' w → ∀ K : Act → World → Prop, K a' w → wpList P ops (OnK K) [oi] a w) (hdf : a'.defers = a.defers) :
    ∀ w, (noZ zs listed → C w) → anyZ P md ops zs C Q fuel (listed.setIfInBounds i true) a' w → anyZ P md ops zs C Q (fuel + 1) listed a w := by
  rw [Bool.and_eq_true, Bool.and_eq_true] at hB
  obtain ⟨hsel, hfree, hrd⟩ := hB
  have hrd' : i ∈ Region.ready md ops listed := by simpa using hrd
  -- what the walk shows
  have key : ∀ w, C' w → if Region.wanted oi (yielded ops a.tmps) then okOp P oi a w (fun u w' => a.put oi.dst u = a' ∧ w' = w) else a.put oi.dst undef = a' := by
    intro w hC
    have h1 := okOp_of_wp (P := P) (ops := ops) (o := oi) (a := a) (w := w) (K := fun x y => x = a' ∧ y = w) (fun x y hk => by rw [hk.1, hdf]) (hv w hC _ ⟨rfl, rfl⟩)
    split
    · rename_i hw; rw [if_pos hw] at h1; exact h1
    · rename_i hw; rw [if_neg hw] at h1; exact h1.1
  -- one value for all worlds
  have hval : ∃ v, a' = a.put oi.dst v := by
    have h1 := key w0 hw0
    split at h1
    · unfold okOp at h1
      generalize (execOp a.eval oi).run P w0 = r at *
      cases r with
      | ok n w' =>
        cases n <;> simp only [okUpon] at h1
        case value v => exact ⟨v, h1.1.symm⟩
        case skip => exact ⟨undef, h1.1.symm⟩
        case enter f args =>
          obtain ⟨e, w'', fr, ⟨v, _, hv, _⟩, _⟩ := h1 []
          exact ⟨v, hv.symm⟩
        case row row args =>
          obtain ⟨v, w'', ⟨hv, _⟩, _⟩ := h1 default []
          exact ⟨v, hv.symm⟩
      | halt x w' => simp only [okUpon] at h1
    · exact ⟨undef, h1.symm⟩
  obtain ⟨v, rfl⟩ := hval
  cases hdd : oi.dst with
  | none => rw [hdd] at hd; cases hd
  | some d =>
    have hinj : ∀ u, a.put oi.dst u = a.put oi.dst v → u = v := by
      intro u hu
      rw [hdd] at hu hd
      have hd' : d < a.tmps.size := by simpa using hd
      have h1 : (a.put (some d) u).tmps[d]? = (a.put (some d) v).tmps[d]? := by rw [hu]
      simpa [Act.put, hd'] using h1
    intro w hC H
    refine anyZ_first (C' := C') (v := v) hi (Region.noSelect_spec hsel) hz hcl fuel listed a hD (Region.free_spec hi hfree) hrd' ?_ w hC (by rw [hdd]; exact H)
    by_cases hw : Region.wanted oi (yielded ops a.tmps) = true
    · refine .inl ⟨hw, fun w1 hC1 => ?_⟩
      have h1 := key w1 hC1
      rw [if_pos hw] at h1
      exact okOp_mono (fun u w2 ⟨e1, e2⟩ => ⟨hinj u e1, e2⟩) h1
    · refine .inr ⟨by simpa using hw, ?_⟩
      have h1 := key w0 hw0
      rw [if_neg hw] at h1
      exact (hinj undef h1).symm
theorem noZ_of_reach {L : Array Bool} {i : Nat} (hD : DC md ops L) (hun : L.getD i true = false) (hr : zs.all (reachB md ops ops.size i) = true) : noZ zs L := fun z hz => by
  cases h : L.getD z false with
  | false => rfl
  | true =>
    have h1 := reach_listed hD ops.size z (List.all_eq_true.1 hr z hz) h
    rw [Array.getD_eq_getD_getElem?] at h1 hun
    rcases Nat.lt_or_ge i L.size with h' | h'
    · simp [h'] at h1 hun; rw [h1] at hun; cases hun
    · simp [Array.getElem?_eq_none h'] at h1

/-- As long as none of 'zs' has come up: in whatever world that has only grown since w0. -/
def AnyZ (P : Program) (ops : Array Oper) (zs : List Nat) (Q : Act → World → Prop) (fuel : Nat) (listed : Array Bool) (a : Act) (w0 : World) : Prop :=
  DC .any ops listed → ∀ w, RowKit.Below w0.heap.size w0 w → anyZ P .any ops zs (fun w => RowKit.Below w0.heap.size w0 w) Q fuel listed a w
/-- In this world, whatever comes of it. -/
def AnyW (P : Program) (ops : Array Oper) (zs : List Nat) (Q : Act → World → Prop) (fuel : Nat) (listed : Array Bool) (a : Act) (w : World) : Prop :=
  DC .any ops listed → anyZ P .any ops zs (fun _ => True) Q fuel listed a w

theorem AnyZ.start {id n : Nat} {Q' : Exit → Act → World → Prop} {a : Act} {w : World} {l : List Oper} (zs : List Nat) (hm : P.follows .mixedOrders = true) (hn : l.length = n)
    (h : AnyZ P l.toArray zs (fun a w => Q' .normal a w) n (Array.replicate n false) a w) : (Code.region id l.toArray true).wp P Q' a w := by
  subst hn
  have hD : DC .any l.toArray (Array.replicate l.length false) := fun k o _ hk => by
    rw [Array.getD_eq_getD_getElem?] at hk
    rcases Nat.lt_or_ge k l.length with h' | h'
    · simp [h'] at hk
    · simp [h'] at hk
  refine wp_region_any hm (wpAny_of_anyZ (zs := zs) (C := fun w' => RowKit.Below w.heap.size w w') (fun _ _ h => h) _ _ _ _ ?_)
  simpa using h hD { w with drawn := w.drawn + 1 } ⟨rfl, rfl, rfl, Nat.le_refl _, fun _ _ => rfl⟩
/-- A quiet operation that all of 'zs' wait for. -/
theorem AnyZ.take {i : Nat} {oi : Oper} {fuel : Nat} {listed : Array Bool} {a a' : Act} {w0 : World} (hi : ops[i]? = some oi)
    (hB : (Region.noSelect ops && (Region.free .any ops listed i && (Region.ready .any ops listed).contains i)) = true)
    (hZ : (zs.all (reachB .any ops ops.size i) && !zs.contains i) = true)
    (hd : (match oi.dst with | some d => decide (d < a.tmps.size) | none => false) = true)
    (hv : ∀ w, RowKit.Below w0.heap.size w0 w → ∀ K : Act → World → Prop, K a' w → wpList P ops (OnK K) [oi] a w) (hdf : a'.defers = a.defers)
    (h : AnyZ P ops zs Q fuel (listed.setIfInBounds i true) a' w0) : AnyZ P ops zs Q (fuel + 1) listed a w0 := by
  rw [Bool.and_eq_true] at hZ
  have hB' := hB
  rw [Bool.and_eq_true, Bool.and_eq_true] at hB'
  have hrd : i ∈ Region.ready .any ops listed := by simpa using hB'.2.2
  intro hD w hw
  exact take_walkZ (C := fun w => RowKit.Below w0.heap.size w0 w) (C' := fun w => RowKit.Below w0.heap.size w0 w) hi hB (by simpa using hZ.2) (RowKit.Below.refl _ _)
    (fun L w hDL hun hc => hc (noZ_of_reach hDL hun hZ.1)) hD hd hv hdf w (fun _ => hw) (h (hD.step hrd) w hw)
/-- A quiet operation that looks at no world. -/
theorem AnyZ.pure {i : Nat} {oi : Oper} {fuel : Nat} {listed : Array Bool} {a a' : Act} {w0 : World} (hi : ops[i]? = some oi)
    (hB : (Region.noSelect ops && (Region.free .any ops listed i && (Region.ready .any ops listed).contains i)) = true) (hZ : (!zs.contains i) = true)
    (hd : (match oi.dst with | some d => decide (d < a.tmps.size) | none => false) = true)
    (hv : ∀ w, ∀ K : Act → World → Prop, K a' w → wpList P ops (OnK K) [oi] a w) (hdf : a'.defers = a.defers)
    (h : AnyZ P ops zs Q fuel (listed.setIfInBounds i true) a' w0) : AnyZ P ops zs Q (fuel + 1) listed a w0 := by
  have hB' := hB
  rw [Bool.and_eq_true, Bool.and_eq_true] at hB'
  have hrd : i ∈ Region.ready .any ops listed := by simpa using hB'.2.2
  intro hD w hw
  exact take_walkZ (C := fun w => RowKit.Below w0.heap.size w0 w) (C' := fun _ => True) (w0 := w0) hi hB (by simpa using hZ) trivial (fun _ _ _ _ _ => trivial) hD hd (fun w _ => hv w) hdf w (fun _ => hw) (h (hD.step hrd) w hw)
theorem AnyW.pure {i : Nat} {oi : Oper} {fuel : Nat} {listed : Array Bool} {a a' : Act} {w : World} (hi : ops[i]? = some oi)
    (hB : (Region.noSelect ops && (Region.free .any ops listed i && (Region.ready .any ops listed).contains i)) = true) (hZ : (!zs.contains i) = true)
    (hd : (match oi.dst with | some d => decide (d < a.tmps.size) | none => false) = true)
    (hv : ∀ w, ∀ K : Act → World → Prop, K a' w → wpList P ops (OnK K) [oi] a w) (hdf : a'.defers = a.defers)
    (h : AnyW P ops zs Q fuel (listed.setIfInBounds i true) a' w) : AnyW P ops zs Q (fuel + 1) listed a w := by
  have hB' := hB
  rw [Bool.and_eq_true, Bool.and_eq_true] at hB'
  have hrd : i ∈ Region.ready .any ops listed := by simpa using hB'.2.2
  intro hD
  exact take_walkZ (C := fun _ => True) (C' := fun _ => True) (w0 := w) hi hB (by simpa using hZ) trivial (fun _ _ _ _ _ => trivial) hD hd (fun w _ => hv w) hdf w (fun _ => trivial) (h (hD.step hrd))
theorem AnyZ.again {fuel : Nat} {listed : Array Bool} {a : Act} {w0 w : World} (hD : DC .any ops listed) (hw : RowKit.Below w0.heap.size w0 w) (h : AnyZ P ops zs Q fuel listed a w) : anyZ P .any ops zs (fun w => RowKit.Below w0.heap.size w0 w) Q fuel listed a w :=
  anyZ_mono _ _ _ _ (fun _ _ h' => hw.trans (h'.mono hw.size)) (h hD w (RowKit.Below.refl _ _))
/-- The only operation that may come up now: walked as it stands; it only makes memory. -/
def SoloZ (P : Program) (ops : Array Oper) (zs : List Nat) (Q : Act → World → Prop) (fuel : Nat) (listed : Array Bool) (df : List Deferred) (w0 : World) (a' : Act) (w' : World) : Prop :=
  a'.defers = df ∧ RowKit.Below w0.heap.size w0 w' ∧ AnyZ P ops zs Q fuel listed a' w'
theorem AnyZ.solo {i : Nat} {oi : Oper} {fuel : Nat} {listed : Array Bool} {a : Act} {w0 : World} (hi : ops[i]? = some oi) (hr : (Region.ready .any ops listed == [i]) = true)
    (h : ∀ w, RowKit.Below w0.heap.size w0 w → wpList P ops (OnK (SoloZ P ops zs Q fuel (listed.setIfInBounds i true) a.defers w0)) [oi] a w) : AnyZ P ops zs Q (fuel + 1) listed a w0 := by
  intro hD w hw
  have hr' : Region.ready .any ops listed = [i] := by simpa using hr
  have hD' := hD.step (j := i) (by rw [hr']; simp)
  refine ⟨fun h0 => (by rw [hr'] at h0; cases h0), fun j hj => ?_⟩
  rw [hr'] at hj
  obtain rfl : j = i := by simpa using hj
  have h1 := okOp_of_wp (fun a' w' hk => hk.1) (h w hw)
  unfold okStep
  simp only [hi]
  split
  · rename_i hw1
    rw [if_pos hw1] at h1
    exact okOp_mono (fun v w' ⟨_, h2, h3⟩ => ⟨fun _ => h2, h3.again hD' h2⟩) h1
  · rename_i hw1
    rw [if_neg hw1] at h1
    exact ⟨fun _ => h1.2.1, h1.2.2.again hD' h1.2.1⟩
/-- The only one that may come up now, one of 'zs': walked as it stands; whatever it turns. -/
def SoloW (P : Program) (ops : Array Oper) (zs : List Nat) (Q : Act → World → Prop) (fuel : Nat) (listed : Array Bool) (df : List Deferred) (a' : Act) (w' : World) : Prop :=
  a'.defers = df ∧ AnyW P ops zs Q fuel listed a' w'
theorem AnyW.again {fuel : Nat} {listed : Array Bool} {a : Act} {w : World} (hD : DC .any ops listed) (hn : ¬ noZ zs listed) (h : AnyW P ops zs Q fuel listed a w) : anyZ P .any ops zs C Q fuel listed a w :=
  anyZ_mono _ _ _ _ (fun h' => absurd h' hn) (h hD)
theorem no_noZ {listed : Array Bool} {i : Nat} (hz : i ∈ zs) (hi : i ∈ Region.ready md ops listed) : ¬ noZ zs (listed.setIfInBounds i true) := fun h => by
  have h1 := h i hz
  have h0 := (mem_ready.1 hi).1
  rw [Array.getD_eq_getD_getElem?] at h1 h0
  rcases Nat.lt_or_ge i listed.size with h' | h'
  · simp [h'] at h1
  · simp [Array.getElem?_eq_none h'] at h0
theorem AnyZ.soloW {i : Nat} {oi : Oper} {fuel : Nat} {listed : Array Bool} {a : Act} {w0 : World} (hi : ops[i]? = some oi) (hr : (Region.ready .any ops listed == [i] && zs.contains i) = true)
    (h : ∀ w, RowKit.Below w0.heap.size w0 w → wpList P ops (OnK (SoloW P ops zs Q fuel (listed.setIfInBounds i true) a.defers)) [oi] a w) : AnyZ P ops zs Q (fuel + 1) listed a w0 := by
  intro hD w hw
  rw [Bool.and_eq_true] at hr
  have hr' : Region.ready .any ops listed = [i] := by simpa using hr.1
  have hir : i ∈ Region.ready .any ops listed := by rw [hr']; simp
  have hnz := no_noZ (zs := zs) (by simpa using hr.2) hir
  refine ⟨fun h0 => (by rw [hr'] at h0; cases h0), fun j hj => ?_⟩
  rw [hr'] at hj
  obtain rfl : j = i := by simpa using hj
  have h1 := okOp_of_wp (fun a' w' hk => hk.1) (h w hw)
  unfold okStep
  simp only [hi]
  split
  · rename_i hw1
    rw [if_pos hw1] at h1
    exact okOp_mono (fun v w' ⟨_, h3⟩ => ⟨fun hn => absurd hn hnz, h3.again (hD.step hir) hnz⟩) h1
  · rename_i hw1
    rw [if_neg hw1] at h1
    exact ⟨fun hn => absurd hn hnz, h1.2.again (hD.step hir) hnz⟩
theorem AnyW.solo {i : Nat} {oi : Oper} {fuel : Nat} {listed : Array Bool} {a : Act} {w : World} (hi : ops[i]? = some oi) (hr : (Region.ready .any ops listed == [i]) = true)
    (h : wpList P ops (OnK (SoloW P ops zs Q fuel (listed.setIfInBounds i true) a.defers)) [oi] a w) : AnyW P ops zs Q (fuel + 1) listed a w := by
  intro hD
  have hr' : Region.ready .any ops listed = [i] := by simpa using hr
  have hir : i ∈ Region.ready .any ops listed := by rw [hr']; simp
  refine ⟨fun h0 => (by rw [hr'] at h0; cases h0), fun j hj => ?_⟩
  rw [hr'] at hj
  obtain rfl : j = i := by simpa using hj
  have h1 := okOp_of_wp (fun a' w' hk => hk.1) h
  unfold okStep
  simp only [hi]
  split
  · rename_i hw1
    rw [if_pos hw1] at h1
    exact okOp_mono (fun v w' ⟨_, h3⟩ => ⟨fun _ => trivial, h3 (hD.step hir)⟩) h1
  · rename_i hw1
    rw [if_neg hw1] at h1
    exact ⟨fun _ => trivial, h1.2 (hD.step hir)⟩
theorem AnyW.done {listed : Array Bool} {a : Act} {w : World} (hr : (Region.ready .any ops listed).isEmpty = true) (h : Q a w) : AnyW P ops zs Q 0 listed a w :=
  fun _ => ⟨by simpa using hr, h⟩
theorem AnyZ.done {listed : Array Bool} {a : Act} {w0 : World} (hr : (Region.ready .any ops listed).isEmpty = true) (h : ∀ w, RowKit.Below w0.heap.size w0 w → Q a w) : AnyZ P ops zs Q 0 listed a w0 :=
  fun _ w hw => ⟨by simpa using hr, h w hw⟩
end
end Go.Proofs.YtkbopeoaoakfnaaDoor
