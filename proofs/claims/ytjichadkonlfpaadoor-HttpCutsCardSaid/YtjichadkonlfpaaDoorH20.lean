/- Feeds one behind the other in memory: what each leaves of the others. No conditions. -/
import Derived.Test.YtjichadkonlfpaaDoorH19
namespace Go.Proofs.YtjichadkonlfpaaDoor
open Go.RowKit
theorem Par.frm {w w' : World} {g : Nat} {s : PS} {W H B : Value} {ps : List Nat} (h : Par w g s W H B) (hf : Frm ps w w') (hp : ∀ k ∈ PL g W H B, k ∉ ps) : Par w' g s W H B := by
  have m1 : g ∈ PL g W H B := by simp [PL]
  have mW : ∀ k, W.ownBlock = some k → k ∈ PL g W H B := fun k hk => by simp [PL, hk]
  have mH : ∀ k, H.ownBlock = some k → k ∈ PL g W H B := fun k hk => by simp [PL, hk]
  have mB : ∀ k, B.ownBlock = some k → k ∈ PL g W H B := fun k hk => by simp [PL, hk]
  exact ⟨hf.heap h.row (hp g m1), ownR_frms h.wd hf (fun q hq => .inr (fun e => hp q (mW q e) hq)), ownR_frms h.hs hf (fun q hq => .inr (fun e => hp q (mH q e) hq)), ownR_frms h.bd hf (fun q hq => .inr (fun e => hp q (mB q e) hq)), h.gw, h.gh, h.gb, h.wh, h.wb, h.hb⟩
theorem Par.lt {w : World} {g : Nat} {s : PS} {W H B : Value} (h : Par w g s W H B) : ∀ k ∈ PL g W H B, k < w.heap.size := by
  intro k hk
  simp only [PL, List.mem_cons, List.mem_append, Option.mem_toList] at hk
  rcases hk with rfl | hk | hk | hk
  · exact lt_of_heap h.row
  · exact (own8_lt h.wd k hk).2
  · exact (World.ownsRow.lt h.hs k hk).2
  · exact (own8_lt h.bd k hk).2
theorem Frm.of_grown1 {w w' : World} {row : Option Nat} (h : w.grownBy w' row) : Frm row.toList w w' := ⟨h.os, h.tape, h.output, h.size, fun k hk hn => h.block k hk (fun e => hn (by rw [← e]; simp))⟩
/-- What a second feed hands out, put to what the first ones handed out. -/
theorem FS.join {g : Nat} {W0 H0 B0 W H B W' H' B' c v c' : Value} {w0 w w1 w2 : World} {s s' : PS} {L M : List Held1} (h : FS g W0 H0 B0 w0 s c L W H B w) (k : FS g W H B w s' v M W' H' B' w1) :
    Held w1 c L ∧ Held w1 v M ∧ (∀ q, c.ownBlock = some q → q ∉ HL v M) ∧
    (Held w2 c' (L ++ M) → w1.grownBy w2 c.ownBlock → (c'.ownBlock = c.ownBlock ∨ c'.ownBlock = some w1.heap.size) → FS g W0 H0 B0 w0 s' c' (L ++ M) W' H' B' w2) := by
  have hst := h.step k.par k.stp
  have lt0 := h.held.lt
  have vM : ∀ q, q ∈ HL c L → q ∉ HL v M := fun q hq hm => by
    rcases k.org q hm with h1 | h1
    · exact h.sep q hq h1
    · have := lt0 q hq; omega
  refine ⟨hst.held, k.held, fun q hq => vM q (mem_HL.2 (.inl hq)), fun hh hg hn => ?_⟩
  have c'k : ∀ q, c'.ownBlock = some q → c.ownBlock = some q ∨ w1.heap.size ≤ q := fun q hq => by
    rcases hn with hn | hn
    · exact .inl (by rw [← hn]; exact hq)
    · rw [hn] at hq; have := Option.some.inj hq; exact .inr (by omega)
  have hfg := Frm.of_grown1 hg
  have cn : ∀ q ∈ PL g W' H' B', q ∉ c.ownBlock.toList := fun q hq hm => hst.sep q (mem_HL.2 (.inl (by simpa using hm))) hq
  have i3 : ∀ q ∈ inner (L ++ M), q ∈ HL c L ∨ q ∈ HL v M := fun q hq => by
    rcases (inner_app _ _ _).1 hq with h1 | h1
    · exact .inl (mem_HL.2 (.inr h1))
    · exact .inr (mem_HL.2 (.inr h1))
  refine ⟨k.par.frm hfg cn, ⟨?_, hst.stp.new⟩, hh, fun q hq hm => ?_, fun q hq => ?_⟩
  · have f0 := hst.stp.frm
    refine ⟨hfg.os.trans f0.os, hfg.tape.trans f0.tape, hfg.output.trans f0.output, Nat.le_trans f0.size hfg.size, fun q hq hm => ?_⟩
    refine (hfg.block q (Nat.lt_of_lt_of_le hq f0.size) (fun hm2 => ?_)).trans (f0.block q hq hm)
    have e : c.ownBlock = some q := by simpa using hm2
    rcases h.org q (mem_HL.2 (.inl e)) with h1 | h1
    · exact hm h1
    · omega
  · rcases mem_HL.1 hq with h1 | h1
    · rcases c'k q h1 with h2 | h2
      · exact hst.sep q (mem_HL.2 (.inl h2)) hm
      · have := k.par.lt q hm; omega
    · rcases i3 q h1 with h2 | h2
      · exact hst.sep q h2 hm
      · exact k.sep q h2 hm
  · rcases mem_HL.1 hq with h1 | h1
    · rcases c'k q h1 with h2 | h2
      · exact h.org q (mem_HL.2 (.inl h2))
      · have := hst.stp.frm.size; exact .inr (by omega)
    · rcases i3 q h1 with h2 | h2
      · exact h.org q h2
      · rcases k.org q h2 with h3 | h3
        · exact h.stp.new q h3
        · have := h.stp.frm.size; exact .inr (by omega)
end Go.Proofs.YtjichadkonlfpaaDoor
