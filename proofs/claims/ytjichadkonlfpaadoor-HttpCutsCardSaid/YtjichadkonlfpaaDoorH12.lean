/- A list of requests that a parser hands out: where it lies, what keeps it. No conditions. -/
import Derived.Test.YtjichadkonlfpaaDoorH11
namespace Go.Proofs.YtjichadkonlfpaaDoor
open Go.RowKit
abbrev Held1 := Req × Value × Value
def reqC (x : Held1) : List Value := [.string ⟨x.1.m.toArray⟩, .string ⟨x.1.t.toArray⟩, x.2.1, x.2.2, .bool x.1.cl]
def reqsV (L : List Held1) : List Value := L.flatMap reqC
def inner (L : List Held1) : List Nat := L.flatMap fun x => x.2.1.ownBlock.toList ++ x.2.2.ownBlock.toList
def HL (v : Value) (L : List Held1) : List Nat := v.ownBlock.toList ++ inner L
theorem mem_inner {L : List Held1} {k : Nat} : k ∈ inner L ↔ ∃ x ∈ L, x.2.1.ownBlock = some k ∨ x.2.2.ownBlock = some k := by
  simp [inner]
theorem mem_HL {v : Value} {L : List Held1} {k : Nat} : k ∈ HL v L ↔ v.ownBlock = some k ∨ k ∈ inner L := by
  simp [HL]
structure Held (w : World) (v : Value) (L : List Held1) : Prop where
  row : w.ownsRow 0 36 5 v L.length (reqsV L)
  mem : ∀ x ∈ L, w.ownsRow 0 55 2 x.2.1 x.1.hs.length (hsV x.1.hs) ∧ Own8 w 0 x.2.2 x.1.bd
  apart : ∀ k, v.ownBlock = some k → k ∉ inner L
theorem Held.lt {w : World} {v : Value} {L : List Held1} (h : Held w v L) : ∀ k ∈ HL v L, k < w.heap.size := by
  intro k hk
  rcases mem_HL.1 hk with hk | hk
  · exact (World.ownsRow.lt h.row k hk).2
  · obtain ⟨x, hx, hk | hk⟩ := mem_inner.1 hk
    · exact (World.ownsRow.lt (h.mem x hx).1 k hk).2
    · exact (own8_lt (h.mem x hx).2 k hk).2
theorem Held.frm {w w' : World} {v : Value} {L : List Held1} {ps : List Nat} (h : Held w v L) (hf : Frm ps w w') (hp : ∀ k ∈ HL v L, k ∉ ps) : Held w' v L := by
  refine ⟨ownR_frms h.row hf (fun q hq => .inr (fun e => hp q (mem_HL.2 (.inl e)) hq)), fun x hx => ⟨ownR_frms (h.mem x hx).1 hf (fun q hq => .inr (fun e => hp q (mem_HL.2 (.inr (mem_inner.2 ⟨x, hx, .inl e⟩))) hq)), ownR_frms (h.mem x hx).2 hf (fun q hq => .inr (fun e => hp q (mem_HL.2 (.inr (mem_inner.2 ⟨x, hx, .inr e⟩))) hq))⟩, h.apart⟩
theorem Held.below {w w' : World} {v : Value} {L : List Held1} (h : Held w v L) (hb : Below w.heap.size w w') : Held w' v L := h.frm (ps := []) (Frm.of_below hb) (fun _ _ => by simp)
theorem held_nil (w : World) : Held w (.slice none 0 0) [] := ⟨World.ownsRow_nil _ _ _ 5, fun _ h => by simp at h, fun k hk => by cases hk⟩
/-- A feed under way. -/
structure FS (g : Nat) (W0 H0 B0 : Value) (w0 : World) (s : PS) (v : Value) (L : List Held1) (W H B : Value) (w : World) : Prop where
  par : Par w g s W H B
  stp : PStep g W0 H0 B0 w0 W H B w
  held : Held w v L
  sep : ∀ k ∈ HL v L, k ∉ PL g W H B
  org : ∀ k ∈ HL v L, k ∈ PL g W0 H0 B0 ∨ w0.heap.size ≤ k
theorem FS.start {g : Nat} {W H B : Value} {w : World} {s : PS} (P : Par w g s W H B) : FS g W H B w s (.slice none 0 0) [] W H B w :=
  ⟨P, PStep.refl _ _ _ _ _, held_nil w, fun k hk => by simp [HL, inner, Value.ownBlock] at hk, fun k hk => by simp [HL, inner, Value.ownBlock] at hk⟩
theorem FS.step {g : Nat} {W0 H0 B0 W H B W' H' B' v : Value} {w0 w w' : World} {s s' : PS} {L : List Held1} (h : FS g W0 H0 B0 w0 s v L W H B w) (P : Par w' g s' W' H' B') (S : PStep g W H B w W' H' B' w') : FS g W0 H0 B0 w0 s' v L W' H' B' w' := by
  refine ⟨P, h.stp.trans S, h.held.frm S.frm h.sep, fun k hk hk2 => ?_, h.org⟩
  rcases S.new k hk2 with h1 | h1
  · exact h.sep k hk h1
  · have := h.held.lt k hk; omega
def zeroC (b : Bool) : Array Value := #[.int .i64 0, .bool b, .int .i64 0, .slice none 0 0, .string ⟨#[]⟩, .string ⟨#[]⟩, .slice none 0 0, .slice none 0 0, .bool false, .bool false, .int .i64 0]
theorem zeroC_cs (b : Bool) : zeroC b = (zeroP b).cs (.slice none 0 0) (.slice none 0 0) (.slice none 0 0) := rfl
theorem par_zero {w : World} {g : Nat} {b : Bool} (h : w.heap[g]? = some (.cells (zeroC b) 48 (0, 0))) : Par w g (zeroP b) (.slice none 0 0) (.slice none 0 0) (.slice none 0 0) := by
  have hn : (Value.slice none 0 0).ownBlock = none := rfl
  refine ⟨by rw [← zeroC_cs]; exact h, own8_nil _ _, World.ownsRow_nil _ _ _ 2, own8_nil _ _, ?_, ?_, ?_, ?_, ?_, ?_⟩ <;> simp [hn]
theorem reqsV_snoc (L : List Held1) (x : Held1) : reqsV (L ++ [x]) = reqsV L ++ reqC x := by simp [reqsV]
theorem inner_snoc (L : List Held1) (x : Held1) (k : Nat) : k ∈ inner (L ++ [x]) ↔ k ∈ inner L ∨ x.2.1.ownBlock = some k ∨ x.2.2.ownBlock = some k := by
  simp [inner]
/-- A whole request is put to the list, the parser is made anew. -/
theorem FS.put {g : Nat} {W0 H0 B0 W H B v v' : Value} {w0 w w1 w2 : World} {s : PS} {L : List Held1} (b : Bool) (h : FS g W0 H0 B0 w0 s v L W H B w) (hb : Below w.heap.size w w1)
    (ho : w2.ownsRow 0 36 5 v' (L.length + 1) (reqsV L ++ reqC (reqOf s, H, B))) (hg : w1.grownBy w2 v.ownBlock) (hx : v'.ownBlock = v.ownBlock ∨ v'.ownBlock = some w1.heap.size) :
    w2.heap[g]? = some (.cells (s.cs W H B) 48 (0, 0)) ∧ FS g W0 H0 B0 w0 (zeroP b) v' (L ++ [(reqOf s, H, B)]) (.slice none 0 0) (.slice none 0 0) (.slice none 0 0) (w2.setRow g (zeroC b)) := by
  have h1 := h.par.below hb
  have hgl := lt_of_heap h1.row
  have hsz := hb.size
  have gPL : g ∈ PL g W H B := by simp [PL]
  have gL : ∀ k ∈ HL v L, k ≠ g := fun k hk e => h.sep k hk (e ▸ gPL)
  have vg : v.ownBlock ≠ some g := fun e => gL g (mem_HL.2 (.inl e)) rfl
  have r2 := own_other h1.row hg vg
  refine ⟨r2, ?_⟩
  have hf := (Frm.setRow w2 g (zeroC b)).1
  have vg' : v'.ownBlock ≠ some g := fun e => by
    rcases hx with hx | hx
    · exact vg (by rw [← hx]; exact e)
    · rw [hx] at e; have := Option.some.inj e; omega
  have nn : (Value.slice none 0 0).ownBlock = none := rfl
  have hH : ∀ k, H.ownBlock = some k → k ∈ PL g W H B := fun k hk => by simp [PL, hk]
  have hB : ∀ k, B.ownBlock = some k → k ∈ PL g W H B := fun k hk => by simp [PL, hk]
  have vH : ∀ k, v.ownBlock = some k → H.ownBlock ≠ some k := fun k hk e => h.sep k (mem_HL.2 (.inl hk)) (hH k e)
  have vB : ∀ k, v.ownBlock = some k → B.ownBlock ≠ some k := fun k hk e => h.sep k (mem_HL.2 (.inl hk)) (hB k e)
  have held1 := h.held.below hb
  -- what lies behind the append
  have hs2 := ownR_other h1.hs hg vH
  have bd2 := ownR_other h1.bd hg vB
  have hs3 := ownR_frms hs2 hf (fun q hq => .inr (by rw [List.mem_singleton.1 hq]; exact h.par.gh))
  have bd3 := ownR_frms bd2 hf (fun q hq => .inr (by rw [List.mem_singleton.1 hq]; exact h.par.gb))
  have in3 : ∀ x ∈ L, (w2.setRow g (zeroC b)).ownsRow 0 55 2 x.2.1 x.1.hs.length (hsV x.1.hs) ∧ Own8 (w2.setRow g (zeroC b)) 0 x.2.2 x.1.bd := by
    intro x hxL
    have a1 : ∀ k, v.ownBlock = some k → x.2.1.ownBlock ≠ some k := fun k hk e => h.held.apart k hk (mem_inner.2 ⟨x, hxL, .inl e⟩)
    have a2 : ∀ k, v.ownBlock = some k → x.2.2.ownBlock ≠ some k := fun k hk e => h.held.apart k hk (mem_inner.2 ⟨x, hxL, .inr e⟩)
    refine ⟨ownR_frms (ownR_other (held1.mem x hxL).1 hg a1) hf (fun q hq => .inr (fun e => ?_)), ownR_frms (ownR_other (held1.mem x hxL).2 hg a2) hf (fun q hq => .inr (fun e => ?_))⟩
    · rw [List.mem_singleton.1 hq] at e
      exact gL g (mem_HL.2 (.inr (mem_inner.2 ⟨x, hxL, .inl e⟩))) rfl
    · rw [List.mem_singleton.1 hq] at e
      exact gL g (mem_HL.2 (.inr (mem_inner.2 ⟨x, hxL, .inr e⟩))) rfl
  have v'k : ∀ k, v'.ownBlock = some k → v.ownBlock = some k ∨ w1.heap.size ≤ k := fun k hk => by
    rcases hx with hx | hx
    · exact .inl (by rw [← hx]; exact hk)
    · rw [hx] at hk; have := Option.some.inj hk; exact .inr (by omega)
  have old : ∀ k ∈ inner (L ++ [(reqOf s, H, B)]), k ∈ inner L ∨ k ∈ PL g W H B ∧ k ≠ g := by
    intro k hk
    rcases (inner_snoc _ _ _).1 hk with h2 | h2 | h2
    · exact .inl h2
    · exact .inr ⟨hH k h2, fun e => h.par.gh (by rw [← e]; exact h2)⟩
    · exact .inr ⟨hB k h2, fun e => h.par.gb (by rw [← e]; exact h2)⟩
  have lt1 : ∀ k ∈ inner (L ++ [(reqOf s, H, B)]), k < w.heap.size := by
    intro k hk
    rcases (inner_snoc _ _ _).1 hk with h2 | h2 | h2
    · exact h.held.lt k (mem_HL.2 (.inr h2))
    · exact (World.ownsRow.lt h.par.hs k h2).2
    · exact (own8_lt h.par.bd k h2).2
  refine ⟨par_zero (heap_setRow r2), ⟨?_, fun k hk => ?_⟩, ⟨?_, ?_, ?_⟩, ?_, ?_⟩
  · -- the frame
    have f0 := h.stp.frm
    refine ⟨hf.os.trans (hg.os.trans (hb.os.trans f0.os)), hf.tape.trans (hg.tape.trans (hb.tape.trans f0.tape)), hf.output.trans (hg.output.trans (hb.output.trans f0.output)), Nat.le_trans f0.size (Nat.le_trans hsz (Nat.le_trans hg.size hf.size)), fun k hk hn => ?_⟩
    have hkg : k ≠ g := fun e => hn (by rw [e]; simp [PL])
    have hkw : k < w.heap.size := Nat.lt_of_lt_of_le hk f0.size
    have hkv : v.ownBlock ≠ some k := fun e => by
      rcases h.org k (mem_HL.2 (.inl e)) with h2 | h2
      · exact hn h2
      · omega
    exact (hf.block k (Nat.lt_of_lt_of_le hkw (Nat.le_trans hsz hg.size)) (by simpa using hkg)).trans ((hg.block k (Nat.lt_of_lt_of_le hkw hsz) (fun e => hkv e.symm)).trans ((hb.block k hkw).trans (f0.block k hk hn)))
  · simp only [PL, nn, Option.toList, List.append_nil, List.mem_singleton] at hk
    exact .inl (by rw [hk]; simp [PL])
  · rw [reqsV_snoc, List.length_append]
    exact ownR_frms ho hf (fun q hq => .inr (by rw [List.mem_singleton.1 hq]; exact vg'))
  · intro x hxL
    rcases List.mem_append.1 hxL with h2 | h2
    · exact in3 x h2
    · rw [List.mem_singleton.1 h2]
      exact ⟨hs3, bd3⟩
  · intro k hk hk2
    rcases v'k k hk with h2 | h2
    · rcases old k hk2 with h3 | h3
      · exact h.held.apart k h2 h3
      · exact h.sep k (mem_HL.2 (.inl h2)) h3.1
    · have := lt1 k hk2; omega
  · intro k hk hk2
    simp only [PL, nn, Option.toList, List.append_nil, List.mem_singleton] at hk2
    subst hk2
    rcases mem_HL.1 hk with h2 | h2
    · exact vg' h2
    · rcases old _ h2 with h3 | h3
      · exact gL _ (mem_HL.2 (.inr h3)) rfl
      · exact h3.2 rfl
  · intro k hk
    rcases mem_HL.1 hk with h2 | h2
    · rcases v'k k h2 with h3 | h3
      · exact h.org k (mem_HL.2 (.inl h3))
      · have := h.stp.frm.size; exact .inr (by omega)
    · rcases old k h2 with h3 | h3
      · exact h.org k (mem_HL.2 (.inr h3))
      · exact h.stp.new k h3.1
theorem reqinfo : (Tryd.prog.info? 36).map (fun i => (i.zero, i.size, i.bytes)) = some (some (.agg #[.string ⟨#[]⟩, .string ⟨#[]⟩, .slice none 0 0, .slice none 0 0, .bool false]), 5, 88) := by kernel_rfl
theorem built_zero (b : Bool) : (Tryd.prog).built 48 [(1, .bool b)] = some (zeroC b) := by cases b <;> kernel_rfl
end Go.Proofs.YtjichadkonlfpaaDoor
