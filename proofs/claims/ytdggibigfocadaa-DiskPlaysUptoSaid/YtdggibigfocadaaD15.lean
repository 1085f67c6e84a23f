/- A cell block that the call holds beside its disk is written. No conditions. -/
import Derived.Test.YtdggibigfocadaaD14
namespace Go.Proofs.Ytdggibigfocadaa
open Go.RowKit
variable {w w' w0 : World} {base g : Nat} {own : Nat → Prop} {s : DS} {S P : Value} {H : List (Nat × Obj)}
theorem grown_setCells {b : Nat} : ∀ (vs : List Value) (o : Nat) (w : World), w.grownBy (w.setCells b o vs) (some b)
  | [], _, _ => ⟨rfl, rfl, rfl, Nat.le_refl _, fun _ _ _ => rfl⟩
  | v :: vs, o, w => by
    have h2 : w.grownBy (w.setCell ⟨b, o, none⟩ v) (some b) := ⟨rfl, rfl, rfl, by simp [World.setCell], fun k _ hk => Below.heap_setCell _ _ _ _ (fun e => hk (by rw [e]))⟩
    have h4 := grown_setCells (b := b) vs (o + 1) (w.setCell ⟨b, o, none⟩ v)
    exact ⟨h4.os.trans h2.os, h4.tape.trans h2.tape, h4.output.trans h2.output, Nat.le_trans h2.size h4.size, fun k hk hne => (h4.block k (Nat.lt_of_lt_of_le hk h2.size) hne).trans (h2.block k hk hne)⟩
theorem heap_setCells_lay {b : Nat} {t : TypeId} : ∀ (vs : List Value) (o : Nat) (w : World) (c : Array Value), w.heap[b]? = some (.cells c t) → (w.setCells b o vs).heap[b]? = some (.cells (layL c.toList o vs).toArray t)
  | [], _, _, c, h => by simp only [World.setCells, layL, Array.toArray_toList]; exact h
  | v :: vs, o, w, c, h => by
    rw [World.setCells, heap_setCells_lay vs (o + 1) _ _ (heap_setCell_same w b o c t v h)]
    simp [layL]
theorem heap_setCells_all {b : Nat} {t : TypeId} {w : World} {c v : Array Value} (h : w.heap[b]? = some (.cells c t)) (hs : c.size = v.size) : (w.setCells b 0 v.toList).heap[b]? = some (.cells v t) := by
  rw [heap_setCells_lay _ _ _ _ h]
  have h1 := layL_front v.toList c.toList [] (by simpa using hs)
  simp only [List.append_nil] at h1
  rw [h1]
theorem there_of {b : Nat} {t : TypeId} {w : World} {c : Array Value} (h : w.heap[b]? = some (.cells c t)) (n : Nat) (hn : n ≤ c.size) : w.there b 0 n := fun j hj => by
  refine ⟨?_, ?_⟩
  · rw [cell_of_row w b (0 + j) c t (0, 0) h, Nat.zero_add, Array.getElem?_eq_getElem (by omega)]; rfl
  · simp [World.frozen?, h]
/-- Another block is turned. -/
theorem Dsk.other (h : Dsk w base own g s S P) {b : Nat} (hg : w.grownBy w' (some b)) (hb : ¬ own b) : Dsk w' base own g s S P :=
  ⟨h.ok, (hg.block g h.lt (fun e => hb (by cases e; exact h.ownG))).trans h.blk, World.ownsRow.kept h.rowS hg (.inr fun e => hb (h.ownS _ e)), World.ownsRow.kept h.rowP hg (.inr fun e => hb (h.ownP _ e)), h.ownG, h.ownS, h.ownP,
   fun k hk => ⟨(h.bnd k hk).1, Nat.lt_of_lt_of_le (h.bnd k hk).2 hg.size⟩, h.gS, h.gP, h.sP⟩
theorem DK.store {b : Nat} {c v : Array Value} {t : TypeId} (h : DK w0 w g s ((b, .cells c t) :: H)) (hs : c.size = v.size) (hb : w0.heap.size ≤ b) (hn : ∀ p ∈ H, p.1 ≠ b) : DK w0 (w.setCells b 0 v.toList) g s ((b, .cells v t) :: H) := by
  obtain ⟨own, S, P, hD, h0, hH⟩ := h
  have hg := grown_setCells (b := b) v.toList 0 w
  obtain ⟨h1, h2⟩ := hH (b, .cells c t) (by simp)
  refine ⟨own, S, P, hD.other hg h2, below_setCells _ _ _ h0 hb, fun p hp => ?_⟩
  rcases List.mem_cons.1 hp with rfl | hp
  · exact ⟨heap_setCells_all h1 hs, h2⟩
  · obtain ⟨h3, h4⟩ := hH p (by simp [hp])
    exact ⟨(hg.block _ (held_lt h3) (fun e => hn p hp (by cases e; rfl))).trans h3, h4⟩
theorem DK.drewN (h : DK w0 w g s H) (q : Nat) : DK w0 (w.drewN q) g s H := h.below ⟨rfl, rfl, rfl, Nat.le_refl _, fun _ _ => rfl⟩
end Go.Proofs.Ytdggibigfocadaa
