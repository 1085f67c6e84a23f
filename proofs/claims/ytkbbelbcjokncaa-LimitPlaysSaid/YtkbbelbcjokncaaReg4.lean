/- A region that draws its order, whose quiet operations look at what was there when the call began. No conditions. -/
import Derived.Test.YtkbbelbcjokncaaReg3
namespace Go.Proofs.Ytkbbelbcjokncaa
section
variable {P : Program} {ops : Array Oper} {Q : Act → World → Prop} {W0 : World}
/-- In this world, which has only grown since W0; whatever is picked. -/
def AnyK (P : Program) (ops : Array Oper) (W0 : World) (Q : Act → World → Prop) (fuel : Nat) (listed : Array Bool) (a : Act) (w : World) : Prop :=
  DC .any ops listed → RowKit.Below W0.heap.size W0 w ∧ anyZ P .any ops [] (fun w => RowKit.Below W0.heap.size W0 w) Q fuel listed a w
theorem AnyK.start {id n : Nat} {Q' : Exit → Act → World → Prop} {a : Act} {w : World} {l : List Oper} (W0 : World) (hm : P.follows .mixedOrders = true) (hn : l.length = n)
    (h : AnyK P l.toArray W0 (fun a w => Q' .normal a w) n (Array.replicate n false) a { w with drawn := w.drawn + 1 }) : (Code.region id l.toArray true).wp P Q' a w := by
  subst hn
  have hD : DC .any l.toArray (Array.replicate l.length false) := fun k o _ hk => by
    rw [Array.getD_eq_getD_getElem?] at hk
    rcases Nat.lt_or_ge k l.length with h' | h'
    · simp [h'] at hk
    · simp [h'] at hk
  refine wp_region_any hm (wpAny_of_anyZ (zs := []) (C := fun w' => RowKit.Below W0.heap.size W0 w') (fun _ _ h => h) _ _ _ _ ?_)
  simpa using (h hD).2
theorem AnyK.take {i : Nat} {oi : Oper} {fuel : Nat} {listed : Array Bool} {a a' : Act} {w : World} (hi : ops[i]? = some oi)
    (hB : (Region.noSelect ops && (Region.free .any ops listed i && (Region.ready .any ops listed).contains i)) = true)
    (hd : (match oi.dst with | some d => decide (d < a.tmps.size) | none => false) = true)
    (hv : ∀ w, RowKit.Below W0.heap.size W0 w → ∀ K : Act → World → Prop, K a' w → wpList P ops (OnK K) [oi] a w) (hdf : a'.defers = a.defers)
    (h : AnyK P ops W0 Q fuel (listed.setIfInBounds i true) a' w) : AnyK P ops W0 Q (fuel + 1) listed a w := by
  have hB' := hB
  rw [Bool.and_eq_true, Bool.and_eq_true] at hB'
  have hrd : i ∈ Region.ready .any ops listed := by simpa using hB'.2.2
  intro hD
  have h1 := h (hD.step hrd)
  exact ⟨h1.1, take_walkZ (zs := []) (C := fun w => RowKit.Below W0.heap.size W0 w) (C' := fun w => RowKit.Below W0.heap.size W0 w) hi hB (by simp) h1.1
    (fun L w _ _ hc => hc (fun z hz => by cases hz)) hD hd hv hdf w (fun _ => h1.1) h1.2⟩
/-- The only one that may come up now: walked as it stands; it leaves what was there when the call began. -/
def SoloK (P : Program) (ops : Array Oper) (W0 : World) (Q : Act → World → Prop) (fuel : Nat) (listed : Array Bool) (df : List Deferred) (a' : Act) (w' : World) : Prop :=
  a'.defers = df ∧ AnyK P ops W0 Q fuel listed a' w'
theorem AnyK.solo {i : Nat} {oi : Oper} {fuel : Nat} {listed : Array Bool} {a : Act} {w : World} (hi : ops[i]? = some oi) (hr : (Region.ready .any ops listed == [i]) = true) (hb : RowKit.Below W0.heap.size W0 w)
    (h : wpList P ops (OnK (SoloK P ops W0 Q fuel (listed.setIfInBounds i true) a.defers)) [oi] a w) : AnyK P ops W0 Q (fuel + 1) listed a w := by
  intro hD
  have hr' : Region.ready .any ops listed = [i] := by simpa using hr
  have hir : i ∈ Region.ready .any ops listed := by rw [hr']; simp
  refine ⟨hb, fun h0 => (by rw [hr'] at h0; cases h0), fun j hj => ?_⟩
  rw [hr'] at hj
  obtain rfl : j = i := by simpa using hj
  have h1 := okOp_of_wp (fun a' w' hk => hk.1) h
  unfold okStep
  simp only [hi]
  split
  · rename_i hw1
    rw [if_pos hw1] at h1
    exact okOp_mono (fun v w' ⟨_, h3⟩ => ⟨fun _ => (h3 (hD.step hir)).1, (h3 (hD.step hir)).2⟩) h1
  · rename_i hw1
    rw [if_neg hw1] at h1
    exact ⟨fun _ => (h1.2 (hD.step hir)).1, (h1.2 (hD.step hir)).2⟩
theorem AnyK.done {listed : Array Bool} {a : Act} {w : World} (hb : RowKit.Below W0.heap.size W0 w) (hr : (Region.ready .any ops listed).isEmpty = true) (h : Q a w) : AnyK P ops W0 Q 0 listed a w :=
  fun _ => ⟨hb, by simpa using hr, h⟩
end
end Go.Proofs.Ytkbbelbcjokncaa
