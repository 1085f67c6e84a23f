/- A region that draws its order, with a class of worlds that is asked for only until its writers come up. No conditions. -/
import Derived.Test.YtkbopeoaoakfnaaDoorReg7
namespace Go.Proofs.YtkbopeoaoakfnaaDoor
section
variable {P : Program} {ops : Array Oper} {Q : Act → World → Prop} {C : World → Prop} {zs : List Nat}
def AnyCZ (P : Program) (ops : Array Oper) (zs : List Nat) (C : World → Prop) (Q : Act → World → Prop) (fuel : Nat) (listed : Array Bool) (a : Act) (w : World) : Prop :=
  DC .any ops listed → C w ∧ anyZ P .any ops zs C Q fuel listed a w
theorem AnyCZ.start {id n : Nat} {Q' : Exit → Act → World → Prop} {a : Act} {w : World} {l : List Oper} (zs : List Nat) (C : World → Prop) (hm : P.follows .mixedOrders = true) (hn : l.length = n)
    (h : ∀ w', RowKit.Below w.heap.size w w' → AnyCZ P l.toArray zs C (fun a w => Q' .normal a w) n (Array.replicate n false) a w') : (Code.region id l.toArray true).wp P Q' a w := by
  subst hn
  have hD : DC .any l.toArray (Array.replicate l.length false) := fun k o _ hk => by
    rw [Array.getD_eq_getD_getElem?] at hk
    rcases Nat.lt_or_ge k l.length with h' | h'
    · simp [h'] at hk
    · simp [h'] at hk
  refine wp_region_any hm (wpAny_of_anyZ (zs := zs) (C := C) (fun _ _ h => h) _ _ _ _ ?_)
  simpa using (h { w with drawn := w.drawn + 1 } ⟨rfl, rfl, rfl, Nat.le_refl _, fun _ _ => rfl⟩ hD).2
theorem AnyCZ.take {i : Nat} {oi : Oper} {fuel : Nat} {listed : Array Bool} {a a' : Act} {w : World} (hi : ops[i]? = some oi)
    (hB : (Region.noSelect ops && (Region.free .any ops listed i && (Region.ready .any ops listed).contains i)) = true)
    (hZ : (zs.all (reachB .any ops ops.size i) && !zs.contains i) = true)
    (hd : (match oi.dst with | some d => decide (d < a.tmps.size) | none => false) = true)
    (hv : ∀ w, C w → ∀ K : Act → World → Prop, K a' w → wpList P ops (OnK K) [oi] a w) (hdf : a'.defers = a.defers)
    (h : AnyCZ P ops zs C Q fuel (listed.setIfInBounds i true) a' w) : AnyCZ P ops zs C Q (fuel + 1) listed a w := by
  rw [Bool.and_eq_true] at hZ
  have hB' := hB
  rw [Bool.and_eq_true, Bool.and_eq_true] at hB'
  have hrd : i ∈ Region.ready .any ops listed := by simpa using hB'.2.2
  intro hD
  have h1 := h (hD.step hrd)
  exact ⟨h1.1, take_walkZ (zs := zs) (C := C) (C' := C) hi hB (by simpa using hZ.2) h1.1
    (fun L w hDL hun hc => hc (noZ_of_reach hDL hun hZ.1)) hD hd hv hdf w (fun _ => h1.1) h1.2⟩
def SoloY (P : Program) (ops : Array Oper) (zs : List Nat) (C : World → Prop) (Q : Act → World → Prop) (fuel : Nat) (listed : Array Bool) (df : List Deferred) (a' : Act) (w' : World) : Prop :=
  a'.defers = df ∧ AnyCZ P ops zs C Q fuel listed a' w'
theorem AnyCZ.solo {i : Nat} {oi : Oper} {fuel : Nat} {listed : Array Bool} {a : Act} {w : World} (hi : ops[i]? = some oi) (hr : (Region.ready .any ops listed == [i]) = true) (hb : C w)
    (h : wpList P ops (OnK (SoloY P ops zs C Q fuel (listed.setIfInBounds i true) a.defers)) [oi] a w) : AnyCZ P ops zs C Q (fuel + 1) listed a w := by
  intro hD
  have hr' : Region.ready .any ops listed = [i] := by simpa using hr
  have hir : i ∈ Region.ready .any ops listed := by rw [hr']; simp
  refine ⟨hb, fun h0 => (by rw [hr'] at h0; cases h0), fun j hj => ?_⟩
  rw [hr'] at hj
  obtain rfl : j = i := by simpa using hj
  have h1 := okOp_of_wp (fun a' w' hk => hk.1) h
  unfold okStep
  simp only [hi]
  split
  · rename_i hw1
    rw [if_pos hw1] at h1
    exact okOp_mono (fun v w' ⟨_, h3⟩ => ⟨fun _ => (h3 (hD.step hir)).1, (h3 (hD.step hir)).2⟩) h1
  · rename_i hw1
    rw [if_neg hw1] at h1
    exact ⟨fun _ => (h1.2 (hD.step hir)).1, (h1.2 (hD.step hir)).2⟩
theorem AnyCZ.soloW {i : Nat} {oi : Oper} {fuel : Nat} {listed : Array Bool} {a : Act} {w : World} (hi : ops[i]? = some oi) (hr : (Region.ready .any ops listed == [i] && zs.contains i) = true) (hb : C w)
    (h : wpList P ops (OnK (SoloW P ops zs Q fuel (listed.setIfInBounds i true) a.defers)) [oi] a w) : AnyCZ P ops zs C Q (fuel + 1) listed a w := by
  intro hD
  rw [Bool.and_eq_true] at hr
  have hr' : Region.ready .any ops listed = [i] := by simpa using hr.1
  have hir : i ∈ Region.ready .any ops listed := by rw [hr']; simp
  have hnz := no_noZ (zs := zs) (by simpa using hr.2) hir
  refine ⟨hb, fun h0 => (by rw [hr'] at h0; cases h0), fun j hj => ?_⟩
  rw [hr'] at hj
  obtain rfl : j = i := by simpa using hj
  have h1 := okOp_of_wp (fun a' w' hk => hk.1) h
  unfold okStep
  simp only [hi]
  split
  · rename_i hw1
    rw [if_pos hw1] at h1
    exact okOp_mono (fun v w' ⟨_, h3⟩ => ⟨fun hn => absurd hn hnz, h3.again (hD.step hir) hnz⟩) h1
  · rename_i hw1
    rw [if_neg hw1] at h1
    exact ⟨fun hn => absurd hn hnz, h1.2.again (hD.step hir) hnz⟩
end
end Go.Proofs.YtkbopeoaoakfnaaDoor
