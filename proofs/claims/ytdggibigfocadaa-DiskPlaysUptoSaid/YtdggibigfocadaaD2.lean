/- A disk in memory. No conditions. -/
import Derived.Test.YtdggibigfocadaaD1
import Derived.BigQuiet
namespace Go.Proofs.Ytdggibigfocadaa
open Go.RowKit

/-- What a disk.Disk holds. -/
structure DS where
  secs : List (List UInt8)
  pend : List (Nat × List UInt8)
  full : Bool
  down : Bool
  lit : Bool
  fuse : Int
def cellsS (l : List (List UInt8)) : List Value := l.flatMap bvs
def cellsP (l : List (Nat × List UInt8)) : List Value := l.flatMap fun p => .int .i64 (p.1 : Int) :: bvs p.2
structure DS.ok (s : DS) : Prop where
  secs : ∀ l ∈ s.secs, l.length = 64
  pend : ∀ p ∈ s.pend, p.1 < s.secs.length ∧ p.2.length = 64
  max : s.secs.length ≤ 65536
/-- The disk at block g; its blocks are 'own'. -/
structure Dsk (w : World) (base : Nat) (own : Nat → Prop) (g : Nat) (s : DS) (S P : Value) : Prop where
  ok : s.ok
  blk : w.heap[g]? = some (.cells #[S, P, .bool s.full, .bool s.down, .bool s.lit, .int .i64 s.fuse] 53 (0, 0))
  rowS : w.ownsRow base 28 64 S s.secs.length (cellsS s.secs)
  rowP : w.ownsRow base 56 65 P s.pend.length (cellsP s.pend)
  ownG : own g
  ownS : ∀ k, S.ownBlock = some k → own k
  ownP : ∀ k, P.ownBlock = some k → own k
  bnd : ∀ k, own k → base ≤ k ∧ k < w.heap.size
  gS : S.ownBlock ≠ some g
  gP : P.ownBlock ≠ some g
  sP : S.ownBlock = none ∨ S.ownBlock ≠ P.ownBlock
/-- Only blocks of 'own' are turned. -/
structure Turns (own : Nat → Prop) (w w' : World) : Prop where
  os : w'.os = w.os
  tape : w'.tape = w.tape
  output : w'.output = w.output
  size : w.heap.size ≤ w'.heap.size
  block : ∀ k, k < w.heap.size → ¬ own k → w'.heap[k]? = w.heap[k]?
variable {w w' : World} {base g : Nat} {own : Nat → Prop} {s : DS} {S P : Value}
theorem Turns.refl (own : Nat → Prop) (w : World) : Turns own w w := ⟨rfl, rfl, rfl, Nat.le_refl _, fun _ _ _ => rfl⟩
theorem Turns.drewN {own : Nat → Prop} {a w : World} (h : Turns own a w) (n : Nat) : Turns own a (w.drewN n) := ⟨h.os, h.tape, h.output, h.size, h.block⟩
theorem Turns.of_below {own : Nat → Prop} {w w' : World} (h : Below w.heap.size w w') : Turns own w w' := ⟨h.os, h.tape, h.output, h.size, fun k hk _ => h.block k hk⟩
theorem Dsk.field (h : Dsk w base own g s S P) {i : Nat} {v : Value} (hv : (#[S, P, .bool s.full, .bool s.down, .bool s.lit, .int .i64 s.fuse] : Array Value)[i]? = some v) : w.cell? ⟨g, i, none⟩ = some v := by
  rw [cell_of_row _ g i _ _ _ h.blk]; exact hv
theorem Dsk.unfrozen (h : Dsk w base own g s S P) (i : Nat) : w.frozen? ⟨g, i, none⟩ = false := by
  simp [World.frozen?, h.blk]
theorem Dsk.lt (h : Dsk w base own g s S P) : g < w.heap.size := (h.bnd g h.ownG).2
/-- A field of one of the four plain ones is written. -/
theorem Dsk.put (h : Dsk w base own g s S P) {i : Nat} {v : Value} {s' : DS} (h1 : s'.secs = s.secs) (h2 : s'.pend = s.pend)
    (hv : (#[S, P, .bool s.full, .bool s.down, .bool s.lit, .int .i64 s.fuse] : Array Value).setIfInBounds i v = #[S, P, .bool s'.full, .bool s'.down, .bool s'.lit, .int .i64 s'.fuse]) :
    Dsk (w.setCell ⟨g, i, none⟩ v) base own g s' S P ∧ Turns own w (w.setCell ⟨g, i, none⟩ v) := by
  have hg : w.grownBy (w.setCell ⟨g, i, none⟩ v) (some g) := ⟨rfl, rfl, rfl, by simp [World.setCell], fun k _ hk => Below.heap_setCell _ _ _ _ (fun e => hk (by rw [e]))⟩
  have hsz : (w.setCell ⟨g, i, none⟩ v).heap.size = w.heap.size := by simp [World.setCell]
  refine ⟨⟨⟨h1 ▸ h.ok.secs, by rw [h1, h2]; exact h.ok.pend, h1 ▸ h.ok.max⟩, ?_, ?_, ?_, h.ownG, h.ownS, h.ownP, fun k hk => by rw [hsz]; exact h.bnd k hk, h.gS, h.gP, h.sP⟩, ⟨rfl, rfl, rfl, by omega, fun k _ hk => Below.heap_setCell _ _ _ _ (fun e => hk (by rw [e]; exact h.ownG))⟩⟩
  · rw [← hv]; exact heap_setCell_same w g i _ _ v h.blk
  · rw [h1]; exact World.ownsRow.kept h.rowS hg (.inr h.gS)
  · rw [h2]; exact World.ownsRow.kept h.rowP hg (.inr h.gP)
theorem Dsk.below (h : Dsk w base own g s S P) (hb : Below w.heap.size w w') : Dsk w' base own g s S P :=
  ⟨h.ok, (hb.block g h.lt).trans h.blk, World.ownsRow.kept h.rowS ⟨hb.os, hb.tape, hb.output, hb.size, fun k hk _ => hb.block k hk⟩ (row := none) (by cases S.ownBlock <;> simp),
   World.ownsRow.kept h.rowP ⟨hb.os, hb.tape, hb.output, hb.size, fun k hk _ => hb.block k hk⟩ (row := none) (by cases P.ownBlock <;> simp), h.ownG, h.ownS, h.ownP, fun k hk => ⟨(h.bnd k hk).1, Nat.lt_of_lt_of_le (h.bnd k hk).2 hb.size⟩, h.gS, h.gP, h.sP⟩

/-- An operation is counted. -/
def DS.op (s : DS) : Bool × DS := if s.down then (false, s) else if s.lit && s.fuse == 0 then (false, { s with down := true }) else (true, { s with fuse := wrap64 (s.fuse - 1) })
def OpPost (own : Nat → Prop) (base g : Nat) (s : DS) (S P : Value) (w : World) (e : Ending) (w' : World) : Prop := e = .returned (.bool s.op.1) ∧ Dsk w' base own g s.op.2 S P ∧ Turns own w w'

theorem OpPost.mk {s : DS} {b : Bool} {s' : DS} (he : s.op = (b, s')) {w w' : World} (h : Dsk w' base own g s' S P ∧ Turns own w w') : OpPost own base g s S P w (.returned (.bool b)) w' := ⟨by rw [he], by rw [he]; exact h.1, h.2⟩
set_option maxRecDepth 100000 in
set_option maxHeartbeats 1000000 in
theorem operation_any (h : Dsk w base own g s S P) : Calls Try.prog 30 #[.pointer (some ⟨g, 0, none⟩)] w (OpPost own base g s S P w) := by
  have f3 := h.field (i := 3) rfl
  have f4 := h.field (i := 4) rfl
  have f5 := h.field (i := 5) rfl
  have hfz := h.unfrozen
  obtain ⟨secs, pend, full, down, lit, fuse⟩ := s
  cases down with
  | true =>
    go_enter Try.func30, Try.ntmps30
    go_wp2
    go_ret
    exact OpPost.mk rfl ⟨h, Turns.refl _ _⟩
  | false =>
    by_cases hf : (lit && fuse == 0) = true
    · have hl : lit = true := by cases lit <;> simp_all
      have h0 : fuse = 0 := by cases lit <;> simp_all
      subst hl; subst h0
      clear hf
      go_enter Try.func30, Try.ntmps30
      go_wp2
      go_ret
      exact OpPost.mk rfl (h.put (s' := ⟨secs, pend, full, true, true, 0⟩) rfl rfl rfl)
    · have he : (DS.mk secs pend full false lit fuse).op = (true, ⟨secs, pend, full, false, lit, wrap64 (fuse - 1)⟩) := by
        unfold DS.op
        rw [if_neg (by simp), if_neg hf]
      have He := Lib.hid he
      clear he
      cases lit with
      | false =>
        clear hf
        go_enter Try.func30, Try.ntmps30
        go_wp2
        go_ret
        exact OpPost.mk He.out (h.put (s' := ⟨secs, pend, full, false, false, wrap64 (fuse - 1)⟩) rfl rfl rfl)
      | true =>
        have hf0 : (fuse == 0) = false := by simpa using hf
        clear hf
        go_enter Try.func30, Try.ntmps30
        go_wp2
        go_ret
        exact OpPost.mk He.out (h.put (s' := ⟨secs, pend, full, false, true, wrap64 (fuse - 1)⟩) rfl rfl rfl)
end Go.Proofs.Ytdggibigfocadaa
