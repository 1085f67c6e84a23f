/- Both disks beside each other and beside blocks that the call holds. No conditions. -/
import Derived.Test.YtdggibigfocadaaE6
import Derived.Test.YtdggibigfocadaaD15
namespace Go.Proofs.Ytdggibigfocadaa
open Go.RowKit
variable {w w' w0 : World} {base g g' : Nat} {own own' : Nat → Prop} {s s' t t' : DS} {S P : Value} {H : List (Nat × Obj)}
def PD (w0 w : World) (g : Nat) (s : DS) (g' : Nat) (t : DS) (H : List (Nat × Obj)) : Prop :=
  ∃ own S P own' S' P', Dsk w w0.heap.size own g s S P ∧ Rdk w w0.heap.size own' g' t S' P' ∧ (∀ k, own k → own' k → False) ∧ Below w0.heap.size w0 w ∧ ∀ p ∈ H, w.heap[p.1]? = some p.2 ∧ ¬ own p.1 ∧ ¬ own' p.1
theorem PD.below0 (h : PD w0 w g s g' t H) : Below w0.heap.size w0 w := by obtain ⟨_, _, _, _, _, _, _, _, _, hb, _⟩ := h; exact hb
theorem PD.held (h : PD w0 w g s g' t H) {p : Nat × Obj} (hp : p ∈ H) : w.heap[p.1]? = some p.2 := by obtain ⟨_, _, _, _, _, _, _, _, _, _, hH⟩ := h; exact (hH p hp).1
theorem PD.below (h : PD w0 w g s g' t H) (hb : Below w.heap.size w w') : PD w0 w' g s g' t H := by
  obtain ⟨o, S, P, o', S', P', h1, h2, hd, h0, hH⟩ := h
  exact ⟨o, S, P, o', S', P', h1.below hb, h2.below hb, hd, h0.trans (hb.mono h0.size), fun p hp => ⟨(hb.block _ (held_lt (hH p hp).1)).trans (hH p hp).1, (hH p hp).2⟩⟩
theorem PD.drewN (h : PD w0 w g s g' t H) (q : Nat) : PD w0 (w.drewN q) g s g' t H := h.below ⟨rfl, rfl, rfl, Nat.le_refl _, fun _ _ => rfl⟩
theorem PD.drew (h : PD w0 w g s g' t H) (n : Nat) : PD w0 { w with drawn := n } g s g' t H := h.below ⟨rfl, rfl, rfl, Nat.le_refl _, fun _ _ => rfl⟩
theorem PD.hold (h : PD w0 w g s g' t H) (o : Obj) : PD w0 (w.alloc o) g s g' t ((w.heap.size, o) :: H) := by
  obtain ⟨ow, S, P, ow', S', P', h1, h2, hd, h0, hH⟩ := h
  have hb : Below w.heap.size w (w.alloc o) := (Below.refl _ _).alloc (Nat.le_refl _) _
  refine ⟨ow, S, P, ow', S', P', h1.below hb, h2.below hb, hd, h0.trans (hb.mono h0.size), fun p hp => ?_⟩
  rcases List.mem_cons.1 hp with rfl | hp
  · exact ⟨heap_alloc_new w o, fun e => by have := (h1.bnd _ e).2; simp at this, fun e => by have := (h2.bnd _ e).2; simp at this⟩
  · exact ⟨(hb.block _ (held_lt (hH p hp).1)).trans (hH p hp).1, (hH p hp).2⟩
theorem PD.drop (h : PD w0 w g s g' t H) {H' : List (Nat × Obj)} (hs : ∀ p ∈ H', p ∈ H) : PD w0 w g s g' t H' := by
  obtain ⟨ow, S, P, ow', S', P', h1, h2, hd, h0, hH⟩ := h
  exact ⟨ow, S, P, ow', S', P', h1, h2, hd, h0, fun p hp => hH p (hs p hp)⟩
theorem Rdk.keep (h : Rdk w base own g t S P) (hs : w.heap.size ≤ w'.heap.size) (hb : ∀ k, own k → w'.heap[k]? = w.heap[k]?) : Rdk w' base own g t S P := by
  refine ⟨h.ok, (hb g h.ownG).trans h.blk, ?_, ?_, h.ownG, h.ownS, h.ownP, fun k hk => ⟨(h.bnd k hk).1, Nat.lt_of_lt_of_le (h.bnd k hk).2 hs⟩, h.gS, h.gP, h.sP⟩
  · obtain ⟨hl, hn | ⟨gV, cap, cur, hv, h1, h2, h3⟩⟩ := h.rowS
    · exact ⟨hl, .inl hn⟩
    · exact ⟨hl, .inr ⟨gV, cap, cur, hv, h1, (hb gV (h.ownS _ (by rw [hv]; rfl))).trans h2, h3⟩⟩
  · obtain ⟨hl, hn | ⟨gV, cap, cur, hv, h1, h2, h3⟩⟩ := h.rowP
    · exact ⟨hl, .inl hn⟩
    · exact ⟨hl, .inr ⟨gV, cap, cur, hv, h1, (hb gV (h.ownP _ (by rw [hv]; rfl))).trans h2, h3⟩⟩
theorem Dsk.keep (h : Dsk w base own g t S P) (hs : w.heap.size ≤ w'.heap.size) (hb : ∀ k, own k → w'.heap[k]? = w.heap[k]?) : Dsk w' base own g t S P := by
  refine ⟨h.ok, (hb g h.ownG).trans h.blk, ?_, ?_, h.ownG, h.ownS, h.ownP, fun k hk => ⟨(h.bnd k hk).1, Nat.lt_of_lt_of_le (h.bnd k hk).2 hs⟩, h.gS, h.gP, h.sP⟩
  · obtain ⟨hl, hn | ⟨gV, cap, cur, hv, h1, h2, h3⟩⟩ := h.rowS
    · exact ⟨hl, .inl hn⟩
    · exact ⟨hl, .inr ⟨gV, cap, cur, hv, h1, (hb gV (h.ownS _ (by rw [hv]; rfl))).trans h2, h3⟩⟩
  · obtain ⟨hl, hn | ⟨gV, cap, cur, hv, h1, h2, h3⟩⟩ := h.rowP
    · exact ⟨hl, .inl hn⟩
    · exact ⟨hl, .inr ⟨gV, cap, cur, hv, h1, (hb gV (h.ownP _ (by rw [hv]; rfl))).trans h2, h3⟩⟩
/-- Behind a call on the program's disk. -/
theorem PD.afterP {S' P' : Value} (h1 : Dsk w w0.heap.size own g s S P) (h2 : Rdk w w0.heap.size own' g' t S' P') (hd : ∀ k, own k → own' k → False) (h0 : Below w0.heap.size w0 w) (hH : ∀ p ∈ H, w.heap[p.1]? = some p.2 ∧ ¬ own p.1 ∧ ¬ own' p.1)
    (h : After w0.heap.size g own s' w w') : PD w0 w' g s' g' t H := by
  obtain ⟨o2, S2, P2, hD', hT, ho⟩ := h
  refine ⟨o2, S2, P2, own', S', P', hD', h2.keep hT.size (fun k hk => hT.block k (h2.bnd k hk).2 (fun e => hd k e hk)), fun k x y => ?_, h0.trans (Turns.below0 h1 hT h0.size), fun p hp => ?_⟩
  · rcases ho k x with x | x
    · exact hd k x y
    · have := (h2.bnd k y).2; omega
  · obtain ⟨a1, a2, a3⟩ := hH p hp
    have hlt := held_lt a1
    exact ⟨(hT.block _ hlt a2).trans a1, fun e => (ho _ e).elim a2 (fun e => by omega), a3⟩
/-- Behind a call on the reference's disk. -/
theorem PD.afterR {S' P' : Value} (h1 : Dsk w w0.heap.size own g s S P) (h2 : Rdk w w0.heap.size own' g' t S' P') (hd : ∀ k, own k → own' k → False) (h0 : Below w0.heap.size w0 w) (hH : ∀ p ∈ H, w.heap[p.1]? = some p.2 ∧ ¬ own p.1 ∧ ¬ own' p.1)
    (h : AfterE w0.heap.size g' own' t' w w') : PD w0 w' g s g' t' H := by
  obtain ⟨o2, S2, P2, hD', hT, ho⟩ := h
  refine ⟨own, S, P, o2, S2, P2, h1.keep hT.size (fun k hk => hT.block k (h1.bnd k hk).2 (fun e => hd k hk e)), hD', fun k x y => ?_, h0.trans ⟨hT.os, hT.tape, hT.output, hT.size, fun k hk => hT.block k (Nat.lt_of_lt_of_le hk h0.size) (fun e => by have := (h2.bnd k e).1; omega)⟩, fun p hp => ?_⟩
  · rcases ho k y with y | y
    · exact hd k x y
    · have := (h1.bnd k x).2; omega
  · obtain ⟨a1, a2, a3⟩ := hH p hp
    have hlt := held_lt a1
    exact ⟨(hT.block _ hlt a3).trans a1, a2, fun e => (ho _ e).elim a3 (fun e => by omega)⟩
theorem WriteP (h : PD w0 w g s g' t H) (n : Int) (d : List UInt8) (hd : d.length = 64) (hlen : (s.pend.length + 1) * 72 ≤ 140737488355328) :
    Calls Try.prog 10 #[.pointer (some ⟨g, 0, none⟩), .int .i64 n, .agg (bvs d).toArray] w fun e w' => e = .returned (.int .i64 (s.write n d).1) ∧ PD w0 w' g (s.write n d).2 g' t H := by
  obtain ⟨o, S, P, o', S', P', h1, h2, hdj, h0, hH⟩ := h
  exact (Write_any h1 n d hd hlen).mono fun e w' h => ⟨h.1, PD.afterP h1 h2 hdj h0 hH h.2⟩
theorem WriteR (h : PD w0 w g s g' t H) (hf : FuseOk t) (n : Int) (d : List UInt8) (hd : d.length = 64) (hlen : (t.pend.length + 1) * 72 ≤ 140737488355328) :
    Calls Try.prog 21 #[.pointer (some ⟨g', 0, none⟩), .int .i64 n, .agg (bvs d).toArray] w fun e w' => e = .returned (.int .i64 (t.write n d).1) ∧ PD w0 w' g s g' (t.write n d).2 H := by
  obtain ⟨o, S, P, o', S', P', h1, h2, hdj, h0, hH⟩ := h
  exact (RWrite_any h2 hf n d hd hlen).mono fun e w' h => ⟨h.1, PD.afterR h1 h2 hdj h0 hH h.2⟩
theorem SyncP (h : PD w0 w g s g' t H) : Calls Try.prog 13 #[.pointer (some ⟨g, 0, none⟩)] w fun e w' => e = .returned (.int .i64 s.sync.1) ∧ PD w0 w' g s.sync.2 g' t H := by
  obtain ⟨o, S, P, o', S', P', h1, h2, hdj, h0, hH⟩ := h
  exact (Sync_any h1).mono fun e w' h => ⟨h.1, PD.afterP h1 h2 hdj h0 hH h.2⟩
theorem SyncR (h : PD w0 w g s g' t H) (hf : FuseOk t) : Calls Try.prog 22 #[.pointer (some ⟨g', 0, none⟩)] w fun e w' => e = .returned (.int .i64 t.sync.1) ∧ PD w0 w' g s g' t.sync.2 H := by
  obtain ⟨o, S, P, o', S', P', h1, h2, hdj, h0, hH⟩ := h
  exact (RSync_any h2 hf).mono fun e w' h => ⟨h.1, PD.afterR h1 h2 hdj h0 hH h.2⟩
theorem ReadP (h : PD w0 w g s g' t H) (n : Int) : Calls Try.prog 14 #[.pointer (some ⟨g, 0, none⟩), .int .i64 n] w
    fun e w' => e = .returned (.tuple #[.agg (bvs (s.read n).1).toArray, .int .i64 (s.read n).2]) ∧ PD w0 w' g s g' t H := by
  have h' := h
  obtain ⟨o, S, P, o', S', P', h1, h2, hdj, h0, hH⟩ := h
  exact (Read_any h1 n).mono fun e w' hp => ⟨hp.1, h'.below hp.2⟩
theorem ReadR (h : PD w0 w g s g' t H) (n : Int) : Calls Try.prog 23 #[.pointer (some ⟨g', 0, none⟩), .int .i64 n] w
    fun e w' => e = .returned (.tuple #[.agg (bvs (t.read n).1).toArray, .int .i64 (t.read n).2]) ∧ PD w0 w' g s g' t H := by
  have h' := h
  obtain ⟨o, S, P, o', S', P', h1, h2, hdj, h0, hH⟩ := h
  exact (RRead_any h2 n).mono fun e w' hp => ⟨hp.1, h'.below hp.2⟩
theorem SetFullP (h : PD w0 w g s g' t H) (b : Bool) : Calls Try.prog 12 #[.pointer (some ⟨g, 0, none⟩), .bool b] w fun e w' => e = .returned (.tuple #[]) ∧ PD w0 w' g { s with full := b } g' t H := by
  obtain ⟨o, S, P, o', S', P', h1, h2, hdj, h0, hH⟩ := h
  exact (SetFull_any h1 b).mono fun e w' hp => ⟨hp.1, PD.afterP h1 h2 hdj h0 hH ⟨o, S, P, hp.2.1, hp.2.2, fun k hk => .inl hk⟩⟩
theorem SetFullR (h : PD w0 w g s g' t H) (b : Bool) : Calls Try.prog 24 #[.pointer (some ⟨g', 0, none⟩), .bool b] w fun e w' => e = .returned (.tuple #[]) ∧ PD w0 w' g s g' { t with full := b } H := by
  obtain ⟨o, S, P, o', S', P', h1, h2, hdj, h0, hH⟩ := h
  exact (RSetFull_any h2 b).mono fun e w' hp => ⟨hp.1, PD.afterR h1 h2 hdj h0 hH ⟨o', S', P', hp.2.1, hp.2.2, fun k hk => .inl hk⟩⟩
theorem SetFuseP (h : PD w0 w g s g' t H) (n : Int) : Calls Try.prog 18 #[.pointer (some ⟨g, 0, none⟩), .int .i64 n] w fun e w' => e = .returned (.tuple #[]) ∧ PD w0 w' g (s.setFuse n) g' t H := by
  obtain ⟨o, S, P, o', S', P', h1, h2, hdj, h0, hH⟩ := h
  exact (SetFuse_any h1 n).mono fun e w' hp => ⟨hp.1, PD.afterP h1 h2 hdj h0 hH ⟨o, S, P, hp.2.1, hp.2.2, fun k hk => .inl hk⟩⟩
theorem SetFuseR (h : PD w0 w g s g' t H) (n : Int) : Calls Try.prog 25 #[.pointer (some ⟨g', 0, none⟩), .int .i64 n] w fun e w' => e = .returned (.tuple #[]) ∧ PD w0 w' g s g' (t.setFuse n) H := by
  obtain ⟨o, S, P, o', S', P', h1, h2, hdj, h0, hH⟩ := h
  exact (RSetFuse_any h2 n).mono fun e w' hp => ⟨hp.1, PD.afterR h1 h2 hdj h0 hH ⟨o', S', P', hp.2.1, hp.2.2, fun k hk => .inl hk⟩⟩
theorem RestartP (h : PD w0 w g s g' t H) {A : Option Addr} {cc : Nat} {ch : List UInt8} (hch : Reads w w0.heap.size 1 A ch.length (bvs ch)) :
    Calls Try.prog 15 #[.pointer (some ⟨g, 0, none⟩), .slice A ch.length cc] w fun e w' => e = .returned (.tuple #[]) ∧ PD w0 w' g (s.restart ch) g' t H := by
  obtain ⟨o, S, P, o', S', P', h1, h2, hdj, h0, hH⟩ := h
  exact (Restart_any h1 hch (Nat.le_refl _)).mono fun e w' h => ⟨h.1, PD.afterP h1 h2 hdj h0 hH h.2⟩
theorem RestartR (h : PD w0 w g s g' t H) {A : Option Addr} {cc : Nat} {ch : List UInt8} (hch : Reads w w0.heap.size 1 A ch.length (bvs ch)) :
    Calls Try.prog 26 #[.pointer (some ⟨g', 0, none⟩), .slice A ch.length cc] w fun e w' => e = .returned (.tuple #[]) ∧ PD w0 w' g s g' (t.restart ch) H := by
  obtain ⟨o, S, P, o', S', P', h1, h2, hdj, h0, hH⟩ := h
  exact (RRestart_any h2 hch (Nat.le_refl _)).mono fun e w' h => ⟨h.1, PD.afterR h1 h2 hdj h0 hH h.2⟩
theorem WaitingP (h : PD w0 w g s g' t H) : Calls Try.prog 16 #[.pointer (some ⟨g, 0, none⟩)] w fun e w' => e = .returned (.int .i64 (s.pend.length : Int)) ∧ w' = w := by
  obtain ⟨o, S, P, o', S', P', h1, h2, hdj, h0, hH⟩ := h
  exact Waiting_any h1
theorem WaitingR (h : PD w0 w g s g' t H) : Calls Try.prog 27 #[.pointer (some ⟨g', 0, none⟩)] w fun e w' => e = .returned (.int .i64 (t.pend.length : Int)) ∧ w' = w := by
  obtain ⟨o, S, P, o', S', P', h1, h2, hdj, h0, hH⟩ := h
  exact RWaiting_any h2
theorem DownP (h : PD w0 w g s g' t H) : Calls Try.prog 17 #[.pointer (some ⟨g, 0, none⟩)] w fun e w' => e = .returned (.bool s.down) ∧ w' = w := by
  obtain ⟨o, S, P, o', S', P', h1, h2, hdj, h0, hH⟩ := h
  exact Down_any h1
theorem DownR (h : PD w0 w g s g' t H) : Calls Try.prog 28 #[.pointer (some ⟨g', 0, none⟩)] w fun e w' => e = .returned (.bool t.down) ∧ w' = w := by
  obtain ⟨o, S, P, o', S', P', h1, h2, hdj, h0, hH⟩ := h
  exact RDown_any h2
theorem SectorsP (h : PD w0 w g s g' t H) : Calls Try.prog 20 #[.pointer (some ⟨g, 0, none⟩)] w fun e w' => e = .returned (.int .i64 (s.secs.length : Int)) ∧ w' = w := by
  obtain ⟨o, S, P, o', S', P', h1, h2, hdj, h0, hH⟩ := h
  exact Sectors_any h1
theorem Rdk.low {base' : Nat} (h : Rdk w base own g t S P) (hb : base' ≤ base) : Rdk w base' own g t S P :=
  ⟨h.ok, h.blk, ownsRow_low h.rowS hb, ownsRow_low h.rowP hb, h.ownG, h.ownS, h.ownP, fun k hk => ⟨Nat.le_trans hb (h.bnd k hk).1, (h.bnd k hk).2⟩, h.gS, h.gP, h.sP⟩
theorem New_pd (h : DK w0 w g s []) (n : Nat) (h1 : 1 ≤ n) (h2 : n ≤ 65536) : Calls Try.prog 19 #[.int .i64 (n : Int)] w
    fun e w' => ∃ g', e = .returned (.tuple #[.pointer (some ⟨g', 0, none⟩), .int .i64 0]) ∧ PD w0 w' g s g' (DS.fresh n) [] := by
  obtain ⟨own, S, P, hD, h0, _⟩ := h
  refine (RNew_any n h1 h2 w).mono ?_
  rintro e w' ⟨g', S', P', he, hR, hb⟩
  exact ⟨g', he, own, S, P, _, S', P', hD.below hb, hR.low h0.size, fun k x y => by have := (hD.bnd k x).2; have := y.1; omega, h0.trans (hb.mono h0.size), fun p hp => by cases hp⟩
/-- Another block is turned. -/
theorem Rdk.other (h : Rdk w base own g s S P) {b : Nat} (hg : w.grownBy w' (some b)) (hb : ¬ own b) : Rdk w' base own g s S P :=
  h.keep hg.size fun k hk => hg.block k (h.bnd k hk).2 (fun e => hb (by cases e; exact hk))
theorem PD.store {b : Nat} {c v : Array Value} {ty : TypeId} (h : PD w0 w g s g' t H) (hm : (b, Obj.cells c ty) ∈ H) (hs : c.size = v.size) (hb : w0.heap.size ≤ b) {H' : List (Nat × Obj)} (hH' : ∀ p ∈ H', p = (b, Obj.cells v ty) ∨ (p ∈ H ∧ p.1 ≠ b)) : PD w0 (w.setCells b 0 v.toList) g s g' t H' := by
  obtain ⟨o, S, P, o', S', P', h1, h2, hd, h0, hH⟩ := h
  have hg := grown_setCells (b := b) v.toList 0 w
  obtain ⟨a1, a2, a3⟩ := hH (b, .cells c ty) hm
  refine ⟨o, S, P, o', S', P', h1.other hg a2, h2.other hg a3, hd, below_setCells _ _ _ h0 hb, fun p hp => ?_⟩
  rcases hH' p hp with rfl | ⟨hp, hne⟩
  · exact ⟨heap_setCells_all a1 hs, a2, a3⟩
  · obtain ⟨b1, b2⟩ := hH p hp
    exact ⟨(hg.block _ (held_lt b1) (fun e => hne (by cases e; rfl))).trans b1, b2⟩
theorem read_len (h : s.ok) (n : Int) : (s.read n).1.length = 64 := by
  unfold DS.read
  split
  · rename_i hn
    split
    · exact List.length_replicate
    · show (s.peek n.toNat).length = 64
      unfold DS.peek lastP
      cases hf : s.pend.reverse.find? fun p => p.1 == n.toNat with
      | some p => exact (h.pend p (List.mem_reverse.1 (List.mem_of_find?_eq_some hf))).2
      | none =>
        have hlt : n.toNat < s.secs.length := by omega
        show (s.secs.getD n.toNat []).length = 64
        rw [List.getD_eq_getElem?_getD, List.getElem?_eq_getElem hlt]
        exact h.secs _ (List.getElem_mem hlt)
  · exact List.length_replicate
theorem PD.ok (h : PD w0 w g s g' t H) : s.ok := by obtain ⟨_, _, _, _, _, _, h1, _⟩ := h; exact h1.ok
theorem op_fuse (h : FuseOk s) : FuseOk s.op.2 := by
  unfold DS.op
  split
  · exact h
  · split
    · exact h
    · rename_i h1 h2
      intro hl
      obtain ⟨h3, h4⟩ := h hl
      have h5 : s.fuse ≠ 0 := fun e => h2 (by rw [show s.lit = true from hl, e]; rfl)
      show 0 ≤ wrap64 (s.fuse - 1) ∧ wrap64 (s.fuse - 1) ≤ _
      unfold wrap64
      omega
/-- Fit to go on: the fuse in form, not more than k writes waiting. -/
def Fit (s : DS) (k : Nat) : Prop := FuseOk s ∧ s.pend.length ≤ k
theorem Fit.more {k : Nat} (h : Fit s k) : Fit s (k + 1) := ⟨h.1, by have := h.2; omega⟩
theorem Fit.write {k : Nat} (h : Fit s k) (n : Int) (d : List UInt8) : Fit (s.write n d).2 (k + 1) := by
  have h1 := op_fuse h.1
  have h2 := h.2
  have h3 := op_pend s
  unfold DS.write
  split
  · split
    · split
      · exact ⟨h1, by rw [h3]; omega⟩
      · exact ⟨h1, by simp [h3]; omega⟩
    · exact ⟨h1, by rw [h3]; omega⟩
  · exact h.more
theorem Fit.sync {k : Nat} (h : Fit s k) : Fit s.sync.2 (k + 1) := by
  have h1 := op_fuse h.1
  have h2 := h.2
  have h3 := op_pend s
  unfold DS.sync
  split
  · exact ⟨h1, by simp⟩
  · exact ⟨h1, by rw [h3]; omega⟩
theorem Fit.full {k : Nat} (h : Fit s k) (b : Bool) : Fit { s with full := b } (k + 1) := ⟨h.1, by have := h.2; show s.pend.length ≤ _; omega⟩
theorem Fit.fuse {k : Nat} (h : Fit s k) (n : Int) (hn : n ≤ 9223372036854775807) : Fit (s.setFuse n) (k + 1) := ⟨fun hl => ⟨by simpa [DS.setFuse] using hl, hn⟩, by have := h.2; show s.pend.length ≤ _; omega⟩
theorem Fit.restart {k : Nat} (ch : List UInt8) : Fit (s.restart ch) (k + 1) := ⟨fun hl => (by cases hl), Nat.zero_le _⟩
end Go.Proofs.Ytdggibigfocadaa
