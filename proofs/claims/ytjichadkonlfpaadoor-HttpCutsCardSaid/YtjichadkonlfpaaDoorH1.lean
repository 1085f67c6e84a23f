/- A parser of requests in plain Lean; where it lies; its small methods. No conditions. -/
import Derived.Test.YtjichadkonlfpaaDoorH0
import Derived.Test.YtjichadkonlfpaaDoorHShelf
namespace Go.Proofs.YtjichadkonlfpaaDoor
open Go.RowKit
/-- What a parser holds. -/
structure PS where
  st : Int
  en : Bool
  hd : Int
  wd : List UInt8
  m : List UInt8
  t : List UInt8
  hs : List (List UInt8 × List UInt8)
  bd : List UInt8
  cl : Bool
  old : Bool
  lf : Int
def hsV (hs : List (List UInt8 × List UInt8)) : List Value := hs.flatMap fun p => [.string ⟨p.1.toArray⟩, .string ⟨p.2.toArray⟩]
def PS.cs (s : PS) (W H B : Value) : Array Value := #[.int .i64 s.st, .bool s.en, .int .i64 s.hd, W, .string ⟨s.m.toArray⟩, .string ⟨s.t.toArray⟩, H, B, .bool s.cl, .bool s.old, .int .i64 s.lf]
/-- A parser at block g, its three slices. -/
structure Par (w : World) (g : Nat) (s : PS) (W H B : Value) : Prop where
  row : w.heap[g]? = some (.cells (s.cs W H B) 48 (0, 0))
  wd : Own8 w 0 W s.wd
  hs : w.ownsRow 0 55 2 H s.hs.length (hsV s.hs)
  bd : Own8 w 0 B s.bd
  gw : W.ownBlock ≠ some g
  gh : H.ownBlock ≠ some g
  gb : B.ownBlock ≠ some g
  wh : ∀ k, W.ownBlock = some k → H.ownBlock ≠ some k
  wb : ∀ k, W.ownBlock = some k → B.ownBlock ≠ some k
  hb : ∀ k, H.ownBlock = some k → B.ownBlock ≠ some k
def PL (g : Nat) (W H B : Value) : List Nat := g :: (W.ownBlock.toList ++ (H.ownBlock.toList ++ B.ownBlock.toList))
/-- From one state to another: only the parser's own blocks were written through, and what it owns behind is its own or new. -/
structure PStep (g : Nat) (W H B : Value) (w : World) (W' H' B' : Value) (w' : World) : Prop where
  frm : Frm (PL g W H B) w w'
  new : ∀ k ∈ PL g W' H' B', k ∈ PL g W H B ∨ w.heap.size ≤ k
theorem PStep.refl (g : Nat) (W H B : Value) (w : World) : PStep g W H B w W H B w := ⟨Frm.refl _ _, fun _ h => .inl h⟩
theorem PStep.trans {g : Nat} {W H B W1 H1 B1 W2 H2 B2 : Value} {w w1 w2 : World} (h : PStep g W H B w W1 H1 B1 w1) (k : PStep g W1 H1 B1 w1 W2 H2 B2 w2) : PStep g W H B w W2 H2 B2 w2 := by
  refine ⟨⟨k.frm.os.trans h.frm.os, k.frm.tape.trans h.frm.tape, k.frm.output.trans h.frm.output, Nat.le_trans h.frm.size k.frm.size, fun i hi hn => ?_⟩, fun i hi => ?_⟩
  · refine (k.frm.block i (Nat.lt_of_lt_of_le hi h.frm.size) (fun hi2 => ?_)).trans (h.frm.block i hi hn)
    rcases h.new i hi2 with h3 | h3
    · exact hn h3
    · omega
  · rcases k.new i hi with h3 | h3
    · exact h.new i h3
    · exact .inr (Nat.le_trans h.frm.size h3)
theorem PStep.of_below {g : Nat} {W H B : Value} {w w' : World} (h : Below w.heap.size w w') : PStep g W H B w W H B w' := ⟨Frm.of_below h, fun _ h => .inl h⟩
theorem Par.below {w w' : World} {g : Nat} {s : PS} {W H B : Value} (h : Par w g s W H B) (hb : Below w.heap.size w w') : Par w' g s W H B :=
  ⟨heap_below h.row hb, own8_below h.wd hb, ownR_below h.hs hb, own8_below h.bd hb, h.gw, h.gh, h.gb, h.wh, h.wb, h.hb⟩
theorem Par.at_ {w : World} {g : Nat} {s : PS} {W H B : Value} (h : Par w g s W H B) : w.cell? ⟨g, 0, none⟩ = some (.int .i64 s.st) ∧ w.cell? ⟨g, 1, none⟩ = some (.bool s.en) ∧ w.cell? ⟨g, 2, none⟩ = some (.int .i64 s.hd) ∧ w.cell? ⟨g, 3, none⟩ = some W ∧ w.cell? ⟨g, 4, none⟩ = some (.string ⟨s.m.toArray⟩) ∧ w.cell? ⟨g, 5, none⟩ = some (.string ⟨s.t.toArray⟩) ∧
    w.cell? ⟨g, 6, none⟩ = some H ∧ w.cell? ⟨g, 7, none⟩ = some B ∧ w.cell? ⟨g, 8, none⟩ = some (.bool s.cl) ∧ w.cell? ⟨g, 9, none⟩ = some (.bool s.old) ∧ w.cell? ⟨g, 10, none⟩ = some (.int .i64 s.lf) := by
  refine ⟨?_, ?_, ?_, ?_, ?_, ?_, ?_, ?_, ?_, ?_, ?_⟩ <;> rw [cell_of_row w g _ _ _ _ h.row] <;> rfl
theorem Par.fz {w : World} {g : Nat} {s : PS} {W H B : Value} (h : Par w g s W H B) (i : Nat) : w.frozen? ⟨g, i, none⟩ = false := frozen_row h.row i
/-- A cell that is no slice is written. -/
theorem Par.set {w : World} {g : Nat} {s s' : PS} {W H B : Value} (h : Par w g s W H B) (i : Nat) (v : Value) (hc : (s.cs W H B).setIfInBounds i v = s'.cs W H B) (h1 : s'.wd = s.wd) (h2 : s'.hs = s.hs) (h3 : s'.bd = s.bd) : Par (w.setCell ⟨g, i, none⟩ v) g s' W H B ∧ PStep g W H B w W H B (w.setCell ⟨g, i, none⟩ v) := by
  have hf := Frm.setCell w g i v
  have hr := heap_setCell_same w g i _ _ v h.row
  rw [hc] at hr
  refine ⟨⟨hr, ?_, ?_, ?_, h.gw, h.gh, h.gb, h.wh, h.wb, h.hb⟩, hf.more (by simp [PL]), fun _ h => .inl h⟩
  · rw [h1]; exact ownR_frms h.wd hf (fun q hq => .inr (by rw [List.mem_singleton.1 hq]; exact h.gw))
  · rw [h2]; exact ownR_frms h.hs hf (fun q hq => .inr (by rw [List.mem_singleton.1 hq]; exact h.gh))
  · rw [h3]; exact ownR_frms h.bd hf (fun q hq => .inr (by rw [List.mem_singleton.1 hq]; exact h.gb))
/-- A slice of the parser's after an append, put back: the word (cell 3). -/
theorem Par.appW {w w0 w' : World} {g : Nat} {s : PS} {W H B v' : Value} {l : List UInt8} (h : Par w g s W H B) (h0 : Below w.heap.size w w0) (ho : Own8 w' 0 v' l) (hg : w0.grownBy w' W.ownBlock) (hx : v'.ownBlock = W.ownBlock ∨ v'.ownBlock = some w0.heap.size) :
    w'.cell? ⟨g, 3, none⟩ = some W ∧ w'.frozen? ⟨g, 3, none⟩ = false ∧ Par (w'.setCell ⟨g, 3, none⟩ v') g { s with wd := l } v' H B ∧ PStep g W H B w v' H B (w'.setCell ⟨g, 3, none⟩ v') := by
  have P0 := h.below h0
  have hgl := lt_of_heap P0.row
  have r1 := own_other P0.row hg P0.gw
  have h1 := ownR_other P0.hs hg P0.wh
  have b1 := ownR_other P0.bd hg P0.wb
  have vg : v'.ownBlock ≠ some g := fun e => by
    rcases hx with hx | hx
    · exact P0.gw (by rw [← hx]; exact e)
    · rw [hx] at e; have := Option.some.inj e; omega
  have vn : ∀ {e : TypeId} {sz n : Nat} {u : Value} {xs : List Value}, w0.ownsRow 0 e sz u n xs → (∀ k, W.ownBlock = some k → u.ownBlock ≠ some k) → ∀ k, v'.ownBlock = some k → u.ownBlock ≠ some k := fun hu hw k hk hk2 => by
    rcases hx with hx | hx
    · exact hw k (by rw [← hx]; exact hk) hk2
    · rw [hx] at hk; have h5 := Option.some.inj hk; have h6 := (World.ownsRow.lt hu k hk2).2; omega
  have hf := Frm.setCell w' g 3 v'
  have hr := heap_setCell_same w' g 3 _ _ v' r1
  refine ⟨by rw [cell_of_row w' g _ _ _ _ r1]; rfl, frozen_row r1 3, ⟨hr, ?_, ?_, ?_, vg, h.gh, h.gb, vn P0.hs P0.wh, vn P0.bd P0.wb, h.hb⟩, ⟨?_, fun k hk => ?_⟩⟩
  · exact ownR_frms ho hf (fun q hq => .inr (by rw [List.mem_singleton.1 hq]; exact vg))
  · exact ownR_frms h1 hf (fun q hq => .inr (by rw [List.mem_singleton.1 hq]; exact h.gh))
  · exact ownR_frms b1 hf (fun q hq => .inr (by rw [List.mem_singleton.1 hq]; exact h.gb))
  · exact ((Frm.of_below h0).trans ((Frm.of_grown hg).more (by simp [PL]; intro p hp; simp [hp]))).trans (hf.more (by simp [PL]))
  · simp only [PL, List.mem_cons, List.mem_append, Option.mem_toList] at hk ⊢
    rcases hk with hk | hk | hk | hk
    · exact .inl (.inl hk)
    · rcases hx with hx | hx
      · exact .inl (.inr (.inl (by rw [← hx]; exact hk)))
      · rw [hx] at hk; have h5 := Option.some.inj hk; have := h0.size; exact .inr (by omega)
    · exact .inl (.inr (.inr (.inl hk)))
    · exact .inl (.inr (.inr (.inr hk)))
/-- The same of the headers (cell 6). -/
theorem Par.appH {w w0 w' : World} {g : Nat} {s : PS} {W H B v' : Value} {l : List (List UInt8 × List UInt8)} (h : Par w g s W H B) (h0 : Below w.heap.size w w0) (ho : w'.ownsRow 0 55 2 v' l.length (hsV l)) (hg : w0.grownBy w' H.ownBlock) (hx : v'.ownBlock = H.ownBlock ∨ v'.ownBlock = some w0.heap.size) :
    w'.cell? ⟨g, 6, none⟩ = some H ∧ w'.frozen? ⟨g, 6, none⟩ = false ∧ Par (w'.setCell ⟨g, 6, none⟩ v') g { s with hs := l } W v' B ∧ PStep g W H B w W v' B (w'.setCell ⟨g, 6, none⟩ v') := by
  have P0 := h.below h0
  have hgl := lt_of_heap P0.row
  have r1 := own_other P0.row hg P0.gh
  have hw' : ∀ k, H.ownBlock = some k → W.ownBlock ≠ some k := fun k hk hk2 => P0.wh k hk2 hk
  have w1 := ownR_other P0.wd hg hw'
  have b1 := ownR_other P0.bd hg P0.hb
  have vg : v'.ownBlock ≠ some g := fun e => by
    rcases hx with hx | hx
    · exact P0.gh (by rw [← hx]; exact e)
    · rw [hx] at e; have := Option.some.inj e; omega
  have vn : ∀ {e : TypeId} {sz n : Nat} {u : Value} {xs : List Value}, w0.ownsRow 0 e sz u n xs → (∀ k, H.ownBlock = some k → u.ownBlock ≠ some k) → ∀ k, v'.ownBlock = some k → u.ownBlock ≠ some k := fun hu hw k hk hk2 => by
    rcases hx with hx | hx
    · exact hw k (by rw [← hx]; exact hk) hk2
    · rw [hx] at hk; have h5 := Option.some.inj hk; have h6 := (World.ownsRow.lt hu k hk2).2; omega
  have hf := Frm.setCell w' g 6 v'
  have hr := heap_setCell_same w' g 6 _ _ v' r1
  refine ⟨by rw [cell_of_row w' g _ _ _ _ r1]; rfl, frozen_row r1 6, ⟨hr, ?_, ?_, ?_, h.gw, vg, h.gb, fun k hk hk2 => vn P0.wd hw' k hk2 hk, h.wb, vn P0.bd P0.hb⟩, ⟨?_, fun k hk => ?_⟩⟩
  · exact ownR_frms w1 hf (fun q hq => .inr (by rw [List.mem_singleton.1 hq]; exact h.gw))
  · exact ownR_frms ho hf (fun q hq => .inr (by rw [List.mem_singleton.1 hq]; exact vg))
  · exact ownR_frms b1 hf (fun q hq => .inr (by rw [List.mem_singleton.1 hq]; exact h.gb))
  · exact ((Frm.of_below h0).trans ((Frm.of_grown hg).more (by simp [PL]; intro p hp; simp [hp]))).trans (hf.more (by simp [PL]))
  · simp only [PL, List.mem_cons, List.mem_append, Option.mem_toList] at hk ⊢
    rcases hk with hk | hk | hk | hk
    · exact .inl (.inl hk)
    · exact .inl (.inr (.inl hk))
    · rcases hx with hx | hx
      · exact .inl (.inr (.inr (.inl (by rw [← hx]; exact hk))))
      · rw [hx] at hk; have h5 := Option.some.inj hk; have := h0.size; exact .inr (by omega)
    · exact .inl (.inr (.inr (.inr hk)))
/-- The same of the body (cell 7). -/
theorem Par.appB {w w0 w' : World} {g : Nat} {s : PS} {W H B v' : Value} {l : List UInt8} (h : Par w g s W H B) (h0 : Below w.heap.size w w0) (ho : Own8 w' 0 v' l) (hg : w0.grownBy w' B.ownBlock) (hx : v'.ownBlock = B.ownBlock ∨ v'.ownBlock = some w0.heap.size) :
    w'.cell? ⟨g, 7, none⟩ = some B ∧ w'.frozen? ⟨g, 7, none⟩ = false ∧ Par (w'.setCell ⟨g, 7, none⟩ v') g { s with bd := l } W H v' ∧ PStep g W H B w W H v' (w'.setCell ⟨g, 7, none⟩ v') := by
  have P0 := h.below h0
  have hgl := lt_of_heap P0.row
  have r1 := own_other P0.row hg P0.gb
  have hw' : ∀ k, B.ownBlock = some k → W.ownBlock ≠ some k := fun k hk hk2 => P0.wb k hk2 hk
  have hh' : ∀ k, B.ownBlock = some k → H.ownBlock ≠ some k := fun k hk hk2 => P0.hb k hk2 hk
  have w1 := ownR_other P0.wd hg hw'
  have h1 := ownR_other P0.hs hg hh'
  have vg : v'.ownBlock ≠ some g := fun e => by
    rcases hx with hx | hx
    · exact P0.gb (by rw [← hx]; exact e)
    · rw [hx] at e; have := Option.some.inj e; omega
  have vn : ∀ {e : TypeId} {sz n : Nat} {u : Value} {xs : List Value}, w0.ownsRow 0 e sz u n xs → (∀ k, B.ownBlock = some k → u.ownBlock ≠ some k) → ∀ k, v'.ownBlock = some k → u.ownBlock ≠ some k := fun hu hw k hk hk2 => by
    rcases hx with hx | hx
    · exact hw k (by rw [← hx]; exact hk) hk2
    · rw [hx] at hk; have h5 := Option.some.inj hk; have h6 := (World.ownsRow.lt hu k hk2).2; omega
  have hf := Frm.setCell w' g 7 v'
  have hr := heap_setCell_same w' g 7 _ _ v' r1
  refine ⟨by rw [cell_of_row w' g _ _ _ _ r1]; rfl, frozen_row r1 7, ⟨hr, ?_, ?_, ?_, h.gw, h.gh, vg, h.wh, fun k hk hk2 => vn P0.wd hw' k hk2 hk, fun k hk hk2 => vn P0.hs hh' k hk2 hk⟩, ⟨?_, fun k hk => ?_⟩⟩
  · exact ownR_frms w1 hf (fun q hq => .inr (by rw [List.mem_singleton.1 hq]; exact h.gw))
  · exact ownR_frms h1 hf (fun q hq => .inr (by rw [List.mem_singleton.1 hq]; exact h.gh))
  · exact ownR_frms ho hf (fun q hq => .inr (by rw [List.mem_singleton.1 hq]; exact vg))
  · exact ((Frm.of_below h0).trans ((Frm.of_grown hg).more (by simp [PL]; intro p hp; simp [hp]))).trans (hf.more (by simp [PL]))
  · simp only [PL, List.mem_cons, List.mem_append, Option.mem_toList] at hk ⊢
    rcases hk with hk | hk | hk | hk
    · exact .inl (.inl hk)
    · exact .inl (.inr (.inl hk))
    · exact .inl (.inr (.inr (.inl hk)))
    · rcases hx with hx | hx
      · exact .inl (.inr (.inr (.inr (by rw [← hx]; exact hk))))
      · rw [hx] at hk; have h5 := Option.some.inj hk; have := h0.size; exact .inr (by omega)
/-- The word is dropped. -/
theorem Par.nilW {w : World} {g : Nat} {s : PS} {W H B : Value} (h : Par w g s W H B) : Par (w.setCell ⟨g, 3, none⟩ (.slice none 0 0)) g { s with wd := [] } (.slice none 0 0) H B ∧ PStep g W H B w (.slice none 0 0) H B (w.setCell ⟨g, 3, none⟩ (.slice none 0 0)) := by
  have hf := Frm.setCell w g 3 (.slice none 0 0)
  have hr := heap_setCell_same w g 3 _ _ (.slice none 0 0) h.row
  have ho : (Value.slice none 0 0).ownBlock = none := rfl
  have hn : ∀ (u : Value) (k : Nat), (Value.slice none 0 0).ownBlock = some k → u.ownBlock ≠ some k := fun u k hk => by rw [ho] at hk; cases hk
  refine ⟨⟨hr, own8_nil _ _, ?_, ?_, by rw [ho]; simp, h.gh, h.gb, hn H, hn B, h.hb⟩, ⟨hf.more (by simp [PL]), fun k hk => .inl ?_⟩⟩
  · exact ownR_frms h.hs hf (fun q hq => .inr (by rw [List.mem_singleton.1 hq]; exact h.gh))
  · exact ownR_frms h.bd hf (fun q hq => .inr (by rw [List.mem_singleton.1 hq]; exact h.gb))
  · simp only [PL, List.mem_cons, List.mem_append, Option.mem_toList] at hk ⊢
    rcases hk with hk | hk | hk | hk
    · exact .inl hk
    · rw [ho] at hk; cases hk
    · exact .inr (.inr (.inl hk))
    · exact .inr (.inr (.inr hk))
/-- What a method leaves: a new state and an answer. -/
def PPost (g : Nat) (W H B : Value) (w : World) (s' : PS) (r : Value) (e : Ending) (w' : World) : Prop := e = .returned r ∧ ∃ W' H' B', Par w' g s' W' H' B' ∧ PStep g W H B w W' H' B' w'
def digitB (c : UInt8) : Bool := decide ((48 : Int) ≤ (c.toNat : Int)) && decide ((c.toNat : Int) ≤ 57)
def lowI (c : UInt8) : Int := bits .or .u8 (c.toNat : Int) 32
def letterB (c : UInt8) : Bool := decide ((97 : Int) ≤ lowI c) && decide (lowI c ≤ 122)
def takeP (s : PS) (c : UInt8) (fits : Bool) : PS × Int := if fits then ({ s with wd := s.wd ++ [c] }, 0) else (s, 400)
def doneP (s : PS) (st : Int) : PS := { s with wd := [], st := st }
def expectP (s : PS) (c want : UInt8) (st : Int) : PS × Int := if c = want then ({ s with st := st }, 0) else (s, 400)
set_option maxRecDepth 100000 in
theorem digit_any (c : UInt8) (w : World) : Calls Tryd.prog 29 #[.int .u8 (c.toNat : Int)] w fun e w' => e = .returned (.bool (digitB c)) ∧ w' = w := by
  cases h1 : decide ((48 : Int) ≤ (c.toNat : Int)) <;> cases h2 : decide ((c.toNat : Int) ≤ 57)
  all_goals
    go_enter Tryd.func29, Tryd.ntmps29
    go_wp2
    go_ret
    exact ⟨by simp only [digitB, h1, h2]; rfl, rfl⟩
set_option maxRecDepth 100000 in
theorem letter_any (c : UInt8) (w : World) : Calls Tryd.prog 28 #[.int .u8 (c.toNat : Int)] w fun e w' => e = .returned (.bool (letterB c)) ∧ w' = w := by
  cases h1 : decide ((97 : Int) ≤ lowI c) <;> cases h2 : decide (lowI c ≤ 122)
  all_goals
    obtain ⟨n, hn⟩ : ∃ n, n = lowI c := ⟨_, rfl⟩
    have hb : letterB c = (decide ((97 : Int) ≤ n) && decide (n ≤ 122)) := by rw [hn]; rfl
    have hN : bits .or .u8 (c.toNat : Int) 32 = n := hn.symm
    rw [hb]
    rw [← hn] at h1 h2
    clear hb hn
    go_enter Tryd.func28, Tryd.ntmps28
    go_wp2
    go_ret
    exact ⟨by simp only [h1, h2]; rfl, rfl⟩
end Go.Proofs.YtjichadkonlfpaaDoor
