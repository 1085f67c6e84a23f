/- ours: the program's requests as the reference's. No conditions. -/
import Derived.Test.YtjichadkonlfpaaDoorH16
namespace Go.Proofs.YtjichadkonlfpaaDoor
open Go.RowKit
theorem ownR_base {w : World} {base base' : Nat} {e : TypeId} {sz n : Nat} {v : Value} {xs : List Value} (h : w.ownsRow base e sz v n xs) (hb : base' ≤ base) : w.ownsRow base' e sz v n xs := by
  obtain ⟨hl, h | ⟨g, cap, cur, h1, h2, h3⟩⟩ := h
  · exact ⟨hl, .inl h⟩
  · exact ⟨hl, .inr ⟨g, cap, cur, h1, by omega, h3⟩⟩
structure Outs (w0 w : World) (v : Value) (M : List Held1) : Prop where
  row : w.ownsRow w0.heap.size 52 5 v M.length (reqsV M)
  hd : ∀ x ∈ M, w.ownsRow w0.heap.size 54 2 x.2.1 x.1.hs.length (hsV x.1.hs) ∧ ∀ k, v.ownBlock = some k → x.2.1.ownBlock ≠ some k
  bd : ∀ x ∈ M, ∃ A c, x.2.2 = .slice A x.1.bd.length c ∧ Reads w0 w0.heap.size 1 A x.1.bd.length (bvs x.1.bd)
  bel : Below w0.heap.size w0 w
theorem Outs.start (w : World) : Outs w w (.slice none 0 0) [] := ⟨World.ownsRow_nil _ _ _ 5, fun _ h => by simp at h, fun _ h => by simp at h, Below.refl _ _⟩
theorem Outs.below {w0 w w' : World} {v : Value} {M : List Held1} (h : Outs w0 w v M) (hb : Below w.heap.size w w') : Outs w0 w' v M :=
  ⟨ownR_below h.row hb, fun x hx => ⟨ownR_below (h.hd x hx).1 hb, (h.hd x hx).2⟩, h.bd, h.bel.trans (hb.mono h.bel.size)⟩
theorem Outs.rr {w0 w : World} {v : Value} {M : List Held1} (h : Outs w0 w v M) : RR w v (M.map (·.1)) := by
  refine ⟨M, rfl, ?_, fun x hx => ⟨?_, ?_⟩⟩
  · obtain ⟨A, c, hv, _, hr⟩ := ownR_form h.row
    exact ⟨A, c, by rw [hv, List.length_map], by rw [List.length_map]; exact hr⟩
  · obtain ⟨A, c, hv, _, hr⟩ := ownR_form (h.hd x hx).1
    exact ⟨A, c, hv, hr⟩
  · obtain ⟨A, c, hv, hr⟩ := h.bd x hx
    exact ⟨A, c, hv, hr.bel h.bel h.bel.size⟩
/-- One more is put to the list. -/
theorem Outs.put {w0 w1 w w' wa : World} {v v' : Value} {M : List Held1} {x : Held1} (h : Outs w0 w1 v M) (hb : Below w1.heap.size w1 w) (hx1 : w.ownsRow w1.heap.size 54 2 x.2.1 x.1.hs.length (hsV x.1.hs))
    (hx2 : ∃ A c, x.2.2 = .slice A x.1.bd.length c ∧ Reads w0 w0.heap.size 1 A x.1.bd.length (bvs x.1.bd)) (ha : Below w.heap.size w wa)
    (ho : w'.ownsRow w0.heap.size 52 5 v' (M.length + 1) (reqsV M ++ reqC x)) (hg : wa.grownBy w' v.ownBlock) (hn : v'.ownBlock = v.ownBlock ∨ v'.ownBlock = some wa.heap.size) : Outs w0 w' v' (M ++ [x]) := by
  have h1 := h.below hb
  have h2 := h1.below ha
  have e1 := h.bel.size
  have e2 := hb.size
  have e3 := ha.size
  have vlt : ∀ k, v.ownBlock = some k → k < w1.heap.size ∧ w0.heap.size ≤ k := fun k hk => ⟨(World.ownsRow.lt h.row k hk).2, (World.ownsRow.lt h.row k hk).1⟩
  have xa := ownR_below hx1 ha
  refine ⟨by rw [reqsV_snoc, List.length_append]; exact ho, fun y hy => ?_, fun y hy => ?_, h2.bel.grown hg h2.bel.size (fun k hk => (vlt k hk).2)⟩
  · rcases List.mem_append.1 hy with hy | hy
    · have hm := h2.hd y hy
      refine ⟨ownR_other hm.1 hg hm.2, fun k hk e => ?_⟩
      rcases hn with hn | hn
      · exact hm.2 k (by rw [← hn]; exact hk) e
      · rw [hn] at hk
        have h5 := Option.some.inj hk
        have h6 := (World.ownsRow.lt hm.1 k e).2
        omega
    · rw [List.mem_singleton.1 hy]
      refine ⟨ownR_base (ownR_other xa hg (fun k hk e => ?_)) e1, fun k hk e => ?_⟩
      · have h5 := (World.ownsRow.lt xa k e).1
        have h6 := (vlt k hk).1
        omega
      · have h5 := World.ownsRow.lt xa k e
        rcases hn with hn | hn
        · have h6 := (vlt k (by rw [← hn]; exact hk)).1
          omega
        · rw [hn] at hk
          have := Option.some.inj hk
          omega
  · rcases List.mem_append.1 hy with hy | hy
    · exact h.bd y hy
    · rw [List.mem_singleton.1 hy]; exact hx2
theorem zeroRq : ∀ w, (zeroValue 52).run Tryd.prog w = .ok (.agg #[.string ⟨#[]⟩, .string ⟨#[]⟩, .slice none 0 0, .slice none 0 0, .bool false]) w := fun w => by kernel_rfl
theorem built_rq0 (ps : List (Nat × Value)) : (Tryd.prog).built 52 ps = Instr.fill ([(0, 1), (1, 1), (2, 1), (3, 1), (4, 1)].toArray[·]?) #[.string ⟨#[]⟩, .string ⟨#[]⟩, .slice none 0 0, .slice none 0 0, .bool false] ps := by kernel_rfl
theorem built_rq (m t : ByteArray) (A : Option Addr) (n c : Nat) (b : Bool) : (Tryd.prog).built 52 [(0, .string m), (1, .string t), (3, .slice A n c), (4, .bool b)] = some #[.string m, .string t, .slice none 0 0, .slice A n c, .bool b] := by
  rw [built_rq0]
  rfl
theorem built_rh0 (ps : List (Nat × Value)) : (Tryd.prog).built 54 ps = Instr.fill ([(0, 1), (1, 1)].toArray[·]?) #[.string ⟨#[]⟩, .string ⟨#[]⟩] ps := by kernel_rfl
theorem built_rh (m t : ByteArray) : (Tryd.prog).built 54 [(0, .string m), (1, .string t)] = some #[.string m, .string t] := by
  rw [built_rh0]
  rfl
theorem rqinfo : (Tryd.prog.info? 52).map (fun i => (i.zero, i.size, i.bytes)) = some (some (.agg #[.string ⟨#[]⟩, .string ⟨#[]⟩, .slice none 0 0, .slice none 0 0, .bool false]), 5, 88) := by kernel_rfl
theorem rhinfo : (Tryd.prog.info? 54).map (fun i => (i.zero, i.size, i.bytes)) = some (some (.agg #[.string ⟨#[]⟩, .string ⟨#[]⟩]), 2, 32) := by kernel_rfl
/-- The request that is under way: its block, its headers so far. -/
structure QS (w1 w : World) (g : Nat) (q : Req) (B H : Value) (j : Nat) : Prop where
  row : w.heap[g]? = some (.cells #[.string ⟨q.m.toArray⟩, .string ⟨q.t.toArray⟩, H, B, .bool q.cl] 52 (0, 0))
  own : w.ownsRow w1.heap.size 54 2 H j (hsV (q.hs.take j))
  ne : H.ownBlock ≠ some g
  ge : w1.heap.size ≤ g
  bel : Below w1.heap.size w1 w
theorem take_snoc {α : Type} {l : List α} {k : Nat} (h : k < l.length) : l.take (k + 1) = l.take k ++ [l[k]] := List.take_succ_eq_append_getElem h
theorem QS.put {w1 w wa w' : World} {g : Nat} {q : Req} {B H H' : Value} {j : Nat} (h : QS w1 w g q B H j) (hj : j < q.hs.length) (ha : Below w.heap.size w wa) (ho : w'.ownsRow w1.heap.size 54 2 H' (j + 1) (hsV (q.hs.take j) ++ [.string ⟨q.hs[j].1.toArray⟩, .string ⟨q.hs[j].2.toArray⟩]))
    (hg : wa.grownBy w' H.ownBlock) (hn : H'.ownBlock = H.ownBlock ∨ H'.ownBlock = some wa.heap.size) : w'.cell? ⟨g, 2, none⟩ = some H ∧ w'.frozen? ⟨g, 2, none⟩ = false ∧ Below w1.heap.size w1 w' ∧ QS w1 (w'.setCell ⟨g, 2, none⟩ H') g q B H' (j + 1) := by
  have r1 := heap_below h.row ha
  have r2 := own_other r1 hg h.ne
  have e1 := ha.size
  have e2 := h.bel.size
  have glt := lt_of_heap h.row
  have hne : H'.ownBlock ≠ some g := fun e => by
    rcases hn with hn | hn
    · exact h.ne (by rw [← hn]; exact e)
    · rw [hn] at e; have := Option.some.inj e; omega
  have b1 : Below w1.heap.size w1 w' := (h.bel.trans (ha.mono h.bel.size)).grown hg (Nat.le_trans e2 e1) (fun k hk => (World.ownsRow.lt h.own k hk).1)
  have hf := Frm.setCell w' g 2 H'
  refine ⟨by rw [cell_of_row w' g _ _ _ _ r2]; rfl, frozen_row r2 2, b1, heap_setCell_same w' g 2 _ _ H' r2, ?_, hne, h.ge, b1.trans (hf.below b1.size (fun p hp => by rw [List.mem_singleton.1 hp]; exact h.ge))⟩
  rw [take_snoc hj, hsV_snoc]
  exact ownR_frms ho hf (fun q hq => .inr (by rw [List.mem_singleton.1 hq]; exact hne))
end Go.Proofs.YtjichadkonlfpaaDoor
