/- A region that draws its order: two operations that may come up now, in either order. No conditions. -/
import Derived.Test.YtkbbelbcjokncaaReg4
namespace Go.Proofs.Ytkbbelbcjokncaa
section
variable {P : Program} {ops : Array Oper} {Q : Act → World → Prop} {W0 : World}
theorem AnyK.two {i j : Nat} {oi oj : Oper} {fuel : Nat} {listed : Array Bool} {a : Act} {w : World} (hi : ops[i]? = some oi) (hj : ops[j]? = some oj) (hr : (Region.ready .any ops listed == [i, j]) = true) (hb : RowKit.Below W0.heap.size W0 w)
    (h : wpList P ops (OnK (SoloK P ops W0 Q fuel (listed.setIfInBounds i true) a.defers)) [oi] a w)
    (h' : wpList P ops (OnK (SoloK P ops W0 Q fuel (listed.setIfInBounds j true) a.defers)) [oj] a w) : AnyK P ops W0 Q (fuel + 1) listed a w := by
  intro hD
  have hr' : Region.ready .any ops listed = [i, j] := by simpa using hr
  refine ⟨hb, fun h0 => (by rw [hr'] at h0; cases h0), fun k hk => ?_⟩
  have hir : k ∈ Region.ready .any ops listed := hk
  have key : ∀ (k : Nat) (ok : Oper), k ∈ Region.ready .any ops listed → ops[k]? = some ok → wpList P ops (OnK (SoloK P ops W0 Q fuel (listed.setIfInBounds k true) a.defers)) [ok] a w → okStep P ops k (fun a' w' => (noZ [] (listed.setIfInBounds k true) → RowKit.Below W0.heap.size W0 w') ∧ anyZ P .any ops [] (fun w => RowKit.Below W0.heap.size W0 w) Q fuel (listed.setIfInBounds k true) a' w') a w := by
    intro k ok hir hok h
    have h1 := okOp_of_wp (fun a' w' hk => hk.1) h
    unfold okStep
    simp only [hok]
    split
    · rename_i hw1
      rw [if_pos hw1] at h1
      exact okOp_mono (fun v w' ⟨_, h3⟩ => ⟨fun _ => (h3 (hD.step hir)).1, (h3 (hD.step hir)).2⟩) h1
    · rename_i hw1
      rw [if_neg hw1] at h1
      exact ⟨fun _ => (h1.2 (hD.step hir)).1, (h1.2 (hD.step hir)).2⟩
  rw [hr'] at hk
  rcases List.mem_cons.1 hk with rfl | hk
  · exact key _ oi hir hi h
  · obtain rfl : k = j := by simpa using hk
    exact key _ oj hir hj h'
end
end Go.Proofs.Ytkbbelbcjokncaa
