/- A region that draws its order, whose quiet operations look at what a class of worlds has in common. No conditions. -/
import Derived.Test.YtkbopeoaoakfnaaDoorReg3
namespace Go.Proofs.YtkbopeoaoakfnaaDoor
section
variable {P : Program} {ops : Array Oper} {Q : Act → World → Prop} {C : World → Prop}
def AnyC (P : Program) (ops : Array Oper) (C : World → Prop) (Q : Act → World → Prop) (fuel : Nat) (listed : Array Bool) (a : Act) (w : World) : Prop :=
  DC .any ops listed → C w ∧ anyZ P .any ops [] C Q fuel listed a w
theorem AnyC.start {id n : Nat} {Q' : Exit → Act → World → Prop} {a : Act} {w : World} {l : List Oper} (C : World → Prop) (hm : P.follows .mixedOrders = true) (hn : l.length = n)
    (h : AnyC P l.toArray C (fun a w => Q' .normal a w) n (Array.replicate n false) a { w with drawn := w.drawn + 1 }) : (Code.region id l.toArray true).wp P Q' a w := by
  subst hn
  have hD : DC .any l.toArray (Array.replicate l.length false) := fun k o _ hk => by
    rw [Array.getD_eq_getD_getElem?] at hk
    rcases Nat.lt_or_ge k l.length with h' | h'
    · simp [h'] at hk
    · simp [h'] at hk
  refine wp_region_any hm (wpAny_of_anyZ (zs := []) (C := C) (fun _ _ h => h) _ _ _ _ ?_)
  simpa using (h hD).2
theorem AnyC.take {i : Nat} {oi : Oper} {fuel : Nat} {listed : Array Bool} {a a' : Act} {w : World} (hi : ops[i]? = some oi)
    (hB : (Region.noSelect ops && (Region.free .any ops listed i && (Region.ready .any ops listed).contains i)) = true)
    (hd : (match oi.dst with | some d => decide (d < a.tmps.size) | none => false) = true)
    (hv : ∀ w, C w → ∀ K : Act → World → Prop, K a' w → wpList P ops (OnK K) [oi] a w) (hdf : a'.defers = a.defers)
    (h : AnyC P ops C Q fuel (listed.setIfInBounds i true) a' w) : AnyC P ops C Q (fuel + 1) listed a w := by
  have hB' := hB
  rw [Bool.and_eq_true, Bool.and_eq_true] at hB'
  have hrd : i ∈ Region.ready .any ops listed := by simpa using hB'.2.2
  intro hD
  have h1 := h (hD.step hrd)
  exact ⟨h1.1, take_walkZ (zs := []) (C := C) (C' := C) hi hB (by simp) h1.1
    (fun L w _ _ hc => hc (fun z hz => by cases hz)) hD hd hv hdf w (fun _ => h1.1) h1.2⟩
def SoloC (P : Program) (ops : Array Oper) (C : World → Prop) (Q : Act → World → Prop) (fuel : Nat) (listed : Array Bool) (df : List Deferred) (a' : Act) (w' : World) : Prop :=
  a'.defers = df ∧ AnyC P ops C Q fuel listed a' w'
theorem AnyC.solo {i : Nat} {oi : Oper} {fuel : Nat} {listed : Array Bool} {a : Act} {w : World} (hi : ops[i]? = some oi) (hr : (Region.ready .any ops listed == [i]) = true) (hb : C w)
    (h : wpList P ops (OnK (SoloC P ops C Q fuel (listed.setIfInBounds i true) a.defers)) [oi] a w) : AnyC P ops C Q (fuel + 1) listed a w := by
  intro hD
  have hr' : Region.ready .any ops listed = [i] := by simpa using hr
  have hir : i ∈ Region.ready .any ops listed := by rw [hr']; simp
  refine ⟨hb, fun h0 => (by rw [hr'] at h0; cases h0), fun j hj => ?_⟩
  rw [hr'] at hj
  obtain rfl : j = i := by simpa using hj
  have h1 := okOp_of_wp (fun a' w' hk => hk.1) h
  unfold okStep
  simp only [hi]
  split
  · rename_i hw1
    rw [if_pos hw1] at h1
    exact okOp_mono (fun v w' ⟨_, h3⟩ => ⟨fun _ => (h3 (hD.step hir)).1, (h3 (hD.step hir)).2⟩) h1
  · rename_i hw1
    rw [if_neg hw1] at h1
    exact ⟨fun _ => (h1.2 (hD.step hir)).1, (h1.2 (hD.step hir)).2⟩
theorem AnyC.done {listed : Array Bool} {a : Act} {w : World} (hb : C w) (hr : (Region.ready .any ops listed).isEmpty = true) (h : Q a w) : AnyC P ops C Q 0 listed a w :=
  fun _ => ⟨hb, by simpa using hr, h⟩
end
end Go.Proofs.YtkbopeoaoakfnaaDoor
