/- A disk of the call's own, among other things that the call holds. No conditions. -/
import Derived.Test.YtdggibigfocadaaD9
import Derived.Test.YtdggibigfocadaaEq64
namespace Go.Proofs.Ytdggibigfocadaa
open Go.RowKit
variable {w w' w0 : World} {g : Nat} {s : DS} {H : List (Nat × Obj)}
/-- The disk s at g, made by the call that began in w0; beside it the objects of H, none of them the disk's. -/
def DK (w0 w : World) (g : Nat) (s : DS) (H : List (Nat × Obj)) : Prop :=
  ∃ own S P, Dsk w w0.heap.size own g s S P ∧ Below w0.heap.size w0 w ∧ ∀ p ∈ H, w.heap[p.1]? = some p.2 ∧ ¬ own p.1
theorem DK.below0 (h : DK w0 w g s H) : Below w0.heap.size w0 w := h.elim fun _ h => h.elim fun _ h => h.elim fun _ h => h.2.1
theorem DK.held (h : DK w0 w g s H) {p : Nat × Obj} (hp : p ∈ H) : w.heap[p.1]? = some p.2 := h.elim fun _ h => h.elim fun _ h => h.elim fun _ h => (h.2.2 p hp).1
theorem held_lt {w : World} {k : Nat} {o : Obj} (h : w.heap[k]? = some o) : k < w.heap.size := by
  rcases Nat.lt_or_ge k w.heap.size with h' | h'
  · exact h'
  · rw [Array.getElem?_eq_none h'] at h; cases h
theorem DK.below (h : DK w0 w g s H) (hb : Below w.heap.size w w') : DK w0 w' g s H := by
  obtain ⟨own, S, P, hD, h0, hH⟩ := h
  exact ⟨own, S, P, hD.below hb, h0.trans (hb.mono h0.size), fun p hp => ⟨(hb.block _ (held_lt (hH p hp).1)).trans (hH p hp).1, (hH p hp).2⟩⟩
theorem DK.hold (h : DK w0 w g s H) (o : Obj) : DK w0 (w.alloc o) g s ((w.heap.size, o) :: H) := by
  obtain ⟨own, S, P, hD, h0, hH⟩ := h
  have hb : Below w.heap.size w (w.alloc o) := (Below.refl _ _).alloc (Nat.le_refl _) _
  refine ⟨own, S, P, hD.below hb, h0.trans (hb.mono h0.size), fun p hp => ?_⟩
  rcases List.mem_cons.1 hp with rfl | hp
  · exact ⟨heap_alloc_new w o, fun e => by have := (hD.bnd _ e).2; simp at this⟩
  · exact ⟨(hb.block _ (held_lt (hH p hp).1)).trans (hH p hp).1, (hH p hp).2⟩
theorem DK.drop (h : DK w0 w g s H) {H' : List (Nat × Obj)} (hs : ∀ p ∈ H', p ∈ H) : DK w0 w g s H' := by
  obtain ⟨own, S, P, hD, h0, hH⟩ := h
  exact ⟨own, S, P, hD, h0, fun p hp => hH p (hs p hp)⟩
theorem Turns.below0 {base : Nat} {own : Nat → Prop} {S P : Value} (hD : Dsk w base own g s S P) (hT : Turns own w w') (hb : base ≤ w.heap.size) : Below base w w' :=
  ⟨hT.os, hT.tape, hT.output, hT.size, fun k hk => hT.block k (by omega) (fun e => by have := (hD.bnd k e).1; omega)⟩
/-- Behind a call on the disk. -/
theorem DK.after {own : Nat → Prop} {S P : Value} {s' : DS} (hD : Dsk w w0.heap.size own g s S P) (h0 : Below w0.heap.size w0 w) (hH : ∀ p ∈ H, w.heap[p.1]? = some p.2 ∧ ¬ own p.1) (h : After w0.heap.size g own s' w w') : DK w0 w' g s' H := by
  obtain ⟨own', S', P', hD', hT, ho⟩ := h
  refine ⟨own', S', P', hD', h0.trans (Turns.below0 hD hT h0.size), fun p hp => ?_⟩
  have hlt := held_lt (hH p hp).1
  refine ⟨(hT.block _ hlt (hH p hp).2).trans (hH p hp).1, fun e => ?_⟩
  rcases ho _ e with e | e
  · exact (hH p hp).2 e
  · omega
def CallPost (w0 : World) (g : Nat) (H : List (Nat × Obj)) (x : Int × DS) (e : Ending) (w' : World) : Prop := e = .returned (.int .i64 x.1) ∧ DK w0 w' g x.2 H
theorem Write_dk (h : DK w0 w g s H) (n : Int) (d : List UInt8) (hd : d.length = 64) (hlen : (s.pend.length + 1) * 72 ≤ 140737488355328) :
    Calls Try.prog 10 #[.pointer (some ⟨g, 0, none⟩), .int .i64 n, .agg (bvs d).toArray] w (CallPost w0 g H (s.write n d)) := by
  obtain ⟨own, S, P, hD, h0, hH⟩ := h
  exact (Write_any hD n d hd hlen).mono fun e w' h => ⟨h.1, DK.after hD h0 hH h.2⟩
theorem Sync_dk (h : DK w0 w g s H) : Calls Try.prog 13 #[.pointer (some ⟨g, 0, none⟩)] w (CallPost w0 g H s.sync) := by
  obtain ⟨own, S, P, hD, h0, hH⟩ := h
  exact (Sync_any hD).mono fun e w' h => ⟨h.1, DK.after hD h0 hH h.2⟩
theorem Read_dk (h : DK w0 w g s H) (n : Int) : Calls Try.prog 14 #[.pointer (some ⟨g, 0, none⟩), .int .i64 n] w
    fun e w' => e = .returned (.tuple #[.agg (bvs (s.read n).1).toArray, .int .i64 (s.read n).2]) ∧ DK w0 w' g s H := by
  have h' := h
  obtain ⟨own, S, P, hD, h0, hH⟩ := h
  exact (Read_any hD n).mono fun e w' hp => ⟨hp.1, h'.below hp.2⟩
theorem SetFull_dk (h : DK w0 w g s H) (b : Bool) : Calls Try.prog 12 #[.pointer (some ⟨g, 0, none⟩), .bool b] w
    fun e w' => e = .returned (.tuple #[]) ∧ DK w0 w' g { s with full := b } H := by
  obtain ⟨own, S, P, hD, h0, hH⟩ := h
  exact (SetFull_any hD b).mono fun e w' hp => ⟨hp.1, DK.after hD h0 hH ⟨own, S, P, hp.2.1, hp.2.2, fun k hk => .inl hk⟩⟩
theorem Waiting_dk (h : DK w0 w g s H) : Calls Try.prog 16 #[.pointer (some ⟨g, 0, none⟩)] w fun e w' => e = .returned (.int .i64 (s.pend.length : Int)) ∧ w' = w := by
  obtain ⟨own, S, P, hD, h0, hH⟩ := h
  exact Waiting_any hD
theorem Down_dk (h : DK w0 w g s H) : Calls Try.prog 17 #[.pointer (some ⟨g, 0, none⟩)] w fun e w' => e = .returned (.bool s.down) ∧ w' = w := by
  obtain ⟨own, S, P, hD, h0, hH⟩ := h
  exact Down_any hD
theorem ownsRow_low {base base' : Nat} {e : TypeId} {size : Nat} {v : Value} {n : Nat} {xs : List Value} (h : w.ownsRow base e size v n xs) (hb : base' ≤ base) : w.ownsRow base' e size v n xs := by
  refine ⟨h.1, ?_⟩
  rcases h.2 with h | ⟨g', cap, cur, rfl, h1, h2⟩
  · exact .inl h
  · exact .inr ⟨g', cap, cur, rfl, Nat.le_trans hb h1, h2⟩
theorem New_dk (n : Nat) (h1 : 1 ≤ n) (h2 : n ≤ 65536) (h0 : Below w0.heap.size w0 w) (hH : ∀ p ∈ H, w.heap[p.1]? = some p.2) : Calls Try.prog 9 #[.int .i64 (n : Int)] w
    fun e w' => ∃ g, e = .returned (.tuple #[.pointer (some ⟨g, 0, none⟩), .int .i64 0]) ∧ DK w0 w' g (DS.fresh n) H := by
  refine (New_any n h1 h2 w).mono ?_
  rintro e w' ⟨g, S, P, he, hD, hb⟩
  refine ⟨g, he, fun k => w.heap.size ≤ k ∧ k < w'.heap.size, S, P, ⟨hD.ok, hD.blk, ownsRow_low hD.rowS h0.size, ownsRow_low hD.rowP h0.size, hD.ownG, hD.ownS, hD.ownP, fun k hk => ⟨Nat.le_trans h0.size (hD.bnd k hk).1, (hD.bnd k hk).2⟩, hD.gS, hD.gP, hD.sP⟩, h0.trans (hb.mono h0.size), fun p hp => ?_⟩
  have hlt := held_lt (hH p hp)
  exact ⟨(hb.block _ hlt).trans (hH p hp), fun e => by omega⟩
theorem alloc_lay (t : TypeId) : ∀ (vs : List Value) (o : Nat) (c : Array Value), (w.alloc (.cells c t)).setCells w.heap.size o vs = w.alloc (.cells (layL c.toList o vs).toArray t)
  | [], _, c => by simp [World.setCells, layL]
  | v :: vs, o, c => by
    rw [World.setCells, World.setCell_alloc_new, alloc_lay t vs (o + 1)]
    simp [layL]
theorem alloc_all (t : TypeId) (c v : Array Value) (h : c.size = v.size) : (w.alloc (.cells c t)).setCells w.heap.size 0 v.toList = w.alloc (.cells v t) := by
  rw [alloc_lay]
  have h1 := layL_front v.toList c.toList [] (by simpa using h)
  simp only [List.append_nil] at h1
  rw [h1]
theorem fillB_length (b : UInt8) : (fillB b).length = 64 := by simp [fillB]
end Go.Proofs.Ytdggibigfocadaa
