/- A region that draws its order: two operations that may come up now, over a class of worlds; what holds at its end. No conditions. -/
import Derived.Test.YtkbopeoaoakfnaaDoorReg6
namespace Go.Proofs.YtkbopeoaoakfnaaDoor
section
variable {P : Program} {ops : Array Oper} {Q : Act → World → Prop} {C : World → Prop}
theorem AnyC.startR {id n : Nat} {Q' : Exit → Act → World → Prop} {a : Act} {w : World} {l : List Oper} (C : World → Prop) (R : Act → World → Prop) (hm : P.follows .mixedOrders = true) (hn : l.length = n)
    (h : AnyC P l.toArray C R n (Array.replicate n false) a { w with drawn := w.drawn + 1 }) (hR : ∀ a w, R a w → Q' .normal a w) : (Code.region id l.toArray true).wp P Q' a w := by
  subst hn
  have hD : DC .any l.toArray (Array.replicate l.length false) := fun k o _ hk => by
    rw [Array.getD_eq_getD_getElem?] at hk
    rcases Nat.lt_or_ge k l.length with h' | h'
    · simp [h'] at hk
    · simp [h'] at hk
  refine wp_region_any hm (wpAny_of_anyZ (zs := []) (C := C) (Q := R) hR _ _ _ _ ?_)
  simpa using (h hD).2
theorem AnyC.step {i : Nat} {oi : Oper} {fuel : Nat} {listed : Array Bool} {a : Act} {w : World} (hi : ops[i]? = some oi) (hD : DC .any ops listed) (hir : i ∈ Region.ready .any ops listed)
    (h : wpList P ops (OnK (SoloC P ops C Q fuel (listed.setIfInBounds i true) a.defers)) [oi] a w) :
    okStep P ops i (fun a' w' => (noZ [] (listed.setIfInBounds i true) → C w') ∧ anyZ P .any ops [] C Q fuel (listed.setIfInBounds i true) a' w') a w := by
  have h1 := okOp_of_wp (fun a' w' hk => hk.1) h
  unfold okStep
  simp only [hi]
  split
  · rename_i hw1
    rw [if_pos hw1] at h1
    exact okOp_mono (fun v w' ⟨_, h3⟩ => ⟨fun _ => (h3 (hD.step hir)).1, (h3 (hD.step hir)).2⟩) h1
  · rename_i hw1
    rw [if_neg hw1] at h1
    exact ⟨fun _ => (h1.2 (hD.step hir)).1, (h1.2 (hD.step hir)).2⟩
theorem AnyC.two {i j : Nat} {oi oj : Oper} {fuel : Nat} {listed : Array Bool} {a : Act} {w : World} (hi : ops[i]? = some oi) (hj : ops[j]? = some oj) (hr : (Region.ready .any ops listed == [i, j]) = true) (hb : C w)
    (h : wpList P ops (OnK (SoloC P ops C Q fuel (listed.setIfInBounds i true) a.defers)) [oi] a w)
    (h' : wpList P ops (OnK (SoloC P ops C Q fuel (listed.setIfInBounds j true) a.defers)) [oj] a w) : AnyC P ops C Q (fuel + 1) listed a w := by
  intro hD
  have hr' : Region.ready .any ops listed = [i, j] := by simpa using hr
  refine ⟨hb, fun h0 => (by rw [hr'] at h0; cases h0), fun k hk => ?_⟩
  have hir := hk
  rw [hr'] at hk
  rcases List.mem_cons.1 hk with rfl | hk
  · exact AnyC.step hi hD hir h
  · obtain rfl : k = j := by simpa using hk
    exact AnyC.step hj hD hir h'
theorem AnyC.three {i j m : Nat} {oi oj om : Oper} {fuel : Nat} {listed : Array Bool} {a : Act} {w : World} (hi : ops[i]? = some oi) (hj : ops[j]? = some oj) (hm : ops[m]? = some om) (hr : (Region.ready .any ops listed == [i, j, m]) = true) (hb : C w)
    (h : wpList P ops (OnK (SoloC P ops C Q fuel (listed.setIfInBounds i true) a.defers)) [oi] a w)
    (h' : wpList P ops (OnK (SoloC P ops C Q fuel (listed.setIfInBounds j true) a.defers)) [oj] a w)
    (h'' : wpList P ops (OnK (SoloC P ops C Q fuel (listed.setIfInBounds m true) a.defers)) [om] a w) : AnyC P ops C Q (fuel + 1) listed a w := by
  intro hD
  have hr' : Region.ready .any ops listed = [i, j, m] := by simpa using hr
  refine ⟨hb, fun h0 => (by rw [hr'] at h0; cases h0), fun k hk => ?_⟩
  have hir := hk
  rw [hr'] at hk
  rcases List.mem_cons.1 hk with rfl | hk
  · exact AnyC.step hi hD hir h
  · rcases List.mem_cons.1 hk with rfl | hk
    · exact AnyC.step hj hD hir h'
    · obtain rfl : k = m := by simpa using hk
      exact AnyC.step hm hD hir h''
end
end Go.Proofs.YtkbopeoaoakfnaaDoor
