/- The texts H12 H13 H14 of this work, merged by wip/merge.py. No conditions. -/
import Derived.Test.YtjichadkonlfpaaDoorQH10
import Derived.Deep.LoopGhost
import Derived.Lib.SlBytesConst
namespace Go.Proofs.YtjichadkonlfpaaDoor
open Go.RowKit
abbrev Held1 := Req × Value × Value
def reqC (x : Held1) : List Value := [.string ⟨x.1.m.toArray⟩, .string ⟨x.1.t.toArray⟩, x.2.1, x.2.2, .bool x.1.cl]
def reqsV (L : List Held1) : List Value := L.flatMap reqC
def inner (L : List Held1) : List Nat := L.flatMap fun x => x.2.1.ownBlock.toList ++ x.2.2.ownBlock.toList
def HL (v : Value) (L : List Held1) : List Nat := v.ownBlock.toList ++ inner L
theorem mem_inner {L : List Held1} {k : Nat} : k ∈ inner L ↔ ∃ x ∈ L, x.2.1.ownBlock = some k ∨ x.2.2.ownBlock = some k := by
  simp [inner]
theorem mem_HL {v : Value} {L : List Held1} {k : Nat} : k ∈ HL v L ↔ v.ownBlock = some k ∨ k ∈ inner L := by
  simp [HL]
structure Held (w : World) (v : Value) (L : List Held1) : Prop where
  row : w.ownsRow 0 36 5 v L.length (reqsV L)
  mem : ∀ x ∈ L, w.ownsRow 0 55 2 x.2.1 x.1.hs.length (hsV x.1.hs) ∧ Own8 w 0 x.2.2 x.1.bd
  apart : ∀ k, v.ownBlock = some k → k ∉ inner L
theorem Held.lt {w : World} {v : Value} {L : List Held1} (h : Held w v L) : ∀ k ∈ HL v L, k < w.heap.size := by
  intro k hk
  rcases mem_HL.1 hk with hk | hk
  · exact (World.ownsRow.lt h.row k hk).2
  · obtain ⟨x, hx, hk | hk⟩ := mem_inner.1 hk
    · exact (World.ownsRow.lt (h.mem x hx).1 k hk).2
    · exact (own8_lt (h.mem x hx).2 k hk).2
theorem Held.frm {w w' : World} {v : Value} {L : List Held1} {ps : List Nat} (h : Held w v L) (hf : Frm ps w w') (hp : ∀ k ∈ HL v L, k ∉ ps) : Held w' v L := by
  refine ⟨ownR_frms h.row hf (fun q hq => .inr (fun e => hp q (mem_HL.2 (.inl e)) hq)), fun x hx => ⟨ownR_frms (h.mem x hx).1 hf (fun q hq => .inr (fun e => hp q (mem_HL.2 (.inr (mem_inner.2 ⟨x, hx, .inl e⟩))) hq)), ownR_frms (h.mem x hx).2 hf (fun q hq => .inr (fun e => hp q (mem_HL.2 (.inr (mem_inner.2 ⟨x, hx, .inr e⟩))) hq))⟩, h.apart⟩
theorem Held.below {w w' : World} {v : Value} {L : List Held1} (h : Held w v L) (hb : Below w.heap.size w w') : Held w' v L := h.frm (ps := []) (Frm.of_below hb) (fun _ _ => by simp)
theorem held_nil (w : World) : Held w (.slice none 0 0) [] := ⟨World.ownsRow_nil _ _ _ 5, fun _ h => by simp at h, fun k hk => by cases hk⟩
/-- A feed under way. -/
structure FS (g : Nat) (W0 H0 B0 : Value) (w0 : World) (s : PS) (v : Value) (L : List Held1) (W H B : Value) (w : World) : Prop where
  par : Par w g s W H B
  stp : PStep g W0 H0 B0 w0 W H B w
  held : Held w v L
  sep : ∀ k ∈ HL v L, k ∉ PL g W H B
  org : ∀ k ∈ HL v L, k ∈ PL g W0 H0 B0 ∨ w0.heap.size ≤ k
theorem FS.start {g : Nat} {W H B : Value} {w : World} {s : PS} (P : Par w g s W H B) : FS g W H B w s (.slice none 0 0) [] W H B w :=
  ⟨P, PStep.refl _ _ _ _ _, held_nil w, fun k hk => by simp [HL, inner, Value.ownBlock] at hk, fun k hk => by simp [HL, inner, Value.ownBlock] at hk⟩
theorem FS.step {g : Nat} {W0 H0 B0 W H B W' H' B' v : Value} {w0 w w' : World} {s s' : PS} {L : List Held1} (h : FS g W0 H0 B0 w0 s v L W H B w) (P : Par w' g s' W' H' B') (S : PStep g W H B w W' H' B' w') : FS g W0 H0 B0 w0 s' v L W' H' B' w' := by
  refine ⟨P, h.stp.trans S, h.held.frm S.frm h.sep, fun k hk hk2 => ?_, h.org⟩
  rcases S.new k hk2 with h1 | h1
  · exact h.sep k hk h1
  · have := h.held.lt k hk; omega
def zeroC (b : Bool) : Array Value := #[.int .i64 0, .bool b, .int .i64 0, .slice none 0 0, .string ⟨#[]⟩, .string ⟨#[]⟩, .slice none 0 0, .slice none 0 0, .bool false, .bool false, .int .i64 0]
theorem zeroC_cs (b : Bool) : zeroC b = (zeroP b).cs (.slice none 0 0) (.slice none 0 0) (.slice none 0 0) := rfl
theorem par_zero {w : World} {g : Nat} {b : Bool} (h : w.heap[g]? = some (.cells (zeroC b) 48 (0, 0))) : Par w g (zeroP b) (.slice none 0 0) (.slice none 0 0) (.slice none 0 0) := by
  have hn : (Value.slice none 0 0).ownBlock = none := rfl
  refine ⟨by rw [← zeroC_cs]; exact h, own8_nil _ _, World.ownsRow_nil _ _ _ 2, own8_nil _ _, ?_, ?_, ?_, ?_, ?_, ?_⟩ <;> simp [hn]
theorem reqsV_snoc (L : List Held1) (x : Held1) : reqsV (L ++ [x]) = reqsV L ++ reqC x := by simp [reqsV]
theorem inner_snoc (L : List Held1) (x : Held1) (k : Nat) : k ∈ inner (L ++ [x]) ↔ k ∈ inner L ∨ x.2.1.ownBlock = some k ∨ x.2.2.ownBlock = some k := by
  simp [inner]
/-- A whole request is put to the list, the parser is made anew. -/
theorem FS.put {g : Nat} {W0 H0 B0 W H B v v' : Value} {w0 w w1 w2 : World} {s : PS} {L : List Held1} (b : Bool) (h : FS g W0 H0 B0 w0 s v L W H B w) (hb : Below w.heap.size w w1)
    (ho : w2.ownsRow 0 36 5 v' (L.length + 1) (reqsV L ++ reqC (reqOf s, H, B))) (hg : w1.grownBy w2 v.ownBlock) (hx : v'.ownBlock = v.ownBlock ∨ v'.ownBlock = some w1.heap.size) :
    w2.heap[g]? = some (.cells (s.cs W H B) 48 (0, 0)) ∧ FS g W0 H0 B0 w0 (zeroP b) v' (L ++ [(reqOf s, H, B)]) (.slice none 0 0) (.slice none 0 0) (.slice none 0 0) (w2.setRow g (zeroC b)) := by
  have h1 := h.par.below hb
  have hgl := lt_of_heap h1.row
  have hsz := hb.size
  have gPL : g ∈ PL g W H B := by simp [PL]
  have gL : ∀ k ∈ HL v L, k ≠ g := fun k hk e => h.sep k hk (e ▸ gPL)
  have vg : v.ownBlock ≠ some g := fun e => gL g (mem_HL.2 (.inl e)) rfl
  have r2 := own_other h1.row hg vg
  refine ⟨r2, ?_⟩
  have hf := (Frm.setRow w2 g (zeroC b)).1
  have vg' : v'.ownBlock ≠ some g := fun e => by
    rcases hx with hx | hx
    · exact vg (by rw [← hx]; exact e)
    · rw [hx] at e; have := Option.some.inj e; omega
  have nn : (Value.slice none 0 0).ownBlock = none := rfl
  have hH : ∀ k, H.ownBlock = some k → k ∈ PL g W H B := fun k hk => by simp [PL, hk]
  have hB : ∀ k, B.ownBlock = some k → k ∈ PL g W H B := fun k hk => by simp [PL, hk]
  have vH : ∀ k, v.ownBlock = some k → H.ownBlock ≠ some k := fun k hk e => h.sep k (mem_HL.2 (.inl hk)) (hH k e)
  have vB : ∀ k, v.ownBlock = some k → B.ownBlock ≠ some k := fun k hk e => h.sep k (mem_HL.2 (.inl hk)) (hB k e)
  have held1 := h.held.below hb
  -- what lies behind the append
  have hs2 := ownR_other h1.hs hg vH
  have bd2 := ownR_other h1.bd hg vB
  have hs3 := ownR_frms hs2 hf (fun q hq => .inr (by rw [List.mem_singleton.1 hq]; exact h.par.gh))
  have bd3 := ownR_frms bd2 hf (fun q hq => .inr (by rw [List.mem_singleton.1 hq]; exact h.par.gb))
  have in3 : ∀ x ∈ L, (w2.setRow g (zeroC b)).ownsRow 0 55 2 x.2.1 x.1.hs.length (hsV x.1.hs) ∧ Own8 (w2.setRow g (zeroC b)) 0 x.2.2 x.1.bd := by
    intro x hxL
    have a1 : ∀ k, v.ownBlock = some k → x.2.1.ownBlock ≠ some k := fun k hk e => h.held.apart k hk (mem_inner.2 ⟨x, hxL, .inl e⟩)
    have a2 : ∀ k, v.ownBlock = some k → x.2.2.ownBlock ≠ some k := fun k hk e => h.held.apart k hk (mem_inner.2 ⟨x, hxL, .inr e⟩)
    refine ⟨ownR_frms (ownR_other (held1.mem x hxL).1 hg a1) hf (fun q hq => .inr (fun e => ?_)), ownR_frms (ownR_other (held1.mem x hxL).2 hg a2) hf (fun q hq => .inr (fun e => ?_))⟩
    · rw [List.mem_singleton.1 hq] at e
      exact gL g (mem_HL.2 (.inr (mem_inner.2 ⟨x, hxL, .inl e⟩))) rfl
    · rw [List.mem_singleton.1 hq] at e
      exact gL g (mem_HL.2 (.inr (mem_inner.2 ⟨x, hxL, .inr e⟩))) rfl
  have v'k : ∀ k, v'.ownBlock = some k → v.ownBlock = some k ∨ w1.heap.size ≤ k := fun k hk => by
    rcases hx with hx | hx
    · exact .inl (by rw [← hx]; exact hk)
    · rw [hx] at hk; have := Option.some.inj hk; exact .inr (by omega)
  have old : ∀ k ∈ inner (L ++ [(reqOf s, H, B)]), k ∈ inner L ∨ k ∈ PL g W H B ∧ k ≠ g := by
    intro k hk
    rcases (inner_snoc _ _ _).1 hk with h2 | h2 | h2
    · exact .inl h2
    · exact .inr ⟨hH k h2, fun e => h.par.gh (by rw [← e]; exact h2)⟩
    · exact .inr ⟨hB k h2, fun e => h.par.gb (by rw [← e]; exact h2)⟩
  have lt1 : ∀ k ∈ inner (L ++ [(reqOf s, H, B)]), k < w.heap.size := by
    intro k hk
    rcases (inner_snoc _ _ _).1 hk with h2 | h2 | h2
    · exact h.held.lt k (mem_HL.2 (.inr h2))
    · exact (World.ownsRow.lt h.par.hs k h2).2
    · exact (own8_lt h.par.bd k h2).2
  refine ⟨par_zero (heap_setRow r2), ⟨?_, fun k hk => ?_⟩, ⟨?_, ?_, ?_⟩, ?_, ?_⟩
  · -- the frame
    have f0 := h.stp.frm
    refine ⟨hf.os.trans (hg.os.trans (hb.os.trans f0.os)), hf.tape.trans (hg.tape.trans (hb.tape.trans f0.tape)), hf.output.trans (hg.output.trans (hb.output.trans f0.output)), Nat.le_trans f0.size (Nat.le_trans hsz (Nat.le_trans hg.size hf.size)), fun k hk hn => ?_⟩
    have hkg : k ≠ g := fun e => hn (by rw [e]; simp [PL])
    have hkw : k < w.heap.size := Nat.lt_of_lt_of_le hk f0.size
    have hkv : v.ownBlock ≠ some k := fun e => by
      rcases h.org k (mem_HL.2 (.inl e)) with h2 | h2
      · exact hn h2
      · omega
    exact (hf.block k (Nat.lt_of_lt_of_le hkw (Nat.le_trans hsz hg.size)) (by simpa using hkg)).trans ((hg.block k (Nat.lt_of_lt_of_le hkw hsz) (fun e => hkv e.symm)).trans ((hb.block k hkw).trans (f0.block k hk hn)))
  · simp only [PL, nn, Option.toList, List.append_nil, List.mem_singleton] at hk
    exact .inl (by rw [hk]; simp [PL])
  · rw [reqsV_snoc, List.length_append]
    exact ownR_frms ho hf (fun q hq => .inr (by rw [List.mem_singleton.1 hq]; exact vg'))
  · intro x hxL
    rcases List.mem_append.1 hxL with h2 | h2
    · exact in3 x h2
    · rw [List.mem_singleton.1 h2]
      exact ⟨hs3, bd3⟩
  · intro k hk hk2
    rcases v'k k hk with h2 | h2
    · rcases old k hk2 with h3 | h3
      · exact h.held.apart k h2 h3
      · exact h.sep k (mem_HL.2 (.inl h2)) h3.1
    · have := lt1 k hk2; omega
  · intro k hk hk2
    simp only [PL, nn, Option.toList, List.append_nil, List.mem_singleton] at hk2
    subst hk2
    rcases mem_HL.1 hk with h2 | h2
    · exact vg' h2
    · rcases old _ h2 with h3 | h3
      · exact gL _ (mem_HL.2 (.inr h3)) rfl
      · exact h3.2 rfl
  · intro k hk
    rcases mem_HL.1 hk with h2 | h2
    · rcases v'k k h2 with h3 | h3
      · exact h.org k (mem_HL.2 (.inl h3))
      · have := h.stp.frm.size; exact .inr (by omega)
    · rcases old k h2 with h3 | h3
      · exact h.org k (mem_HL.2 (.inr h3))
      · exact h.stp.new k h3.1
theorem reqinfo : (Tryd.prog.info? 36).map (fun i => (i.zero, i.size, i.bytes)) = some (some (.agg #[.string ⟨#[]⟩, .string ⟨#[]⟩, .slice none 0 0, .slice none 0 0, .bool false]), 5, 88) := by kernel_rfl
theorem built_zero (b : Bool) : (Tryd.prog).built 48 [(1, .bool b)] = some (zeroC b) := by cases b <;> kernel_rfl
end Go.Proofs.YtjichadkonlfpaaDoor

namespace Go.Proofs.YtjichadkonlfpaaDoor
open Go.RowKit
def FI (g : Nat) (W0 H0 B0 : Value) (w0 : World) (s0 : PS) (l : List UInt8) (k : Nat) (d : Value) (w : World) : Prop :=
  ∃ s L W H B, FS g W0 H0 B0 w0 s d L W H B w ∧ Ok s ∧ ¬ (s.st = 9 ∧ s.lf = 0) ∧ feedP s0 l = ((feedP s (l.drop k)).1, L.map (·.1) ++ (feedP s (l.drop k)).2.1, (feedP s (l.drop k)).2.2)
def FeedPost (g : Nat) (W0 H0 B0 : Value) (w0 : World) (s0 : PS) (l : List UInt8) (e : Ending) (w' : World) : Prop :=
  ∃ v L W H B, e = .returned (.tuple #[v, .int .i64 (feedP s0 l).2.2]) ∧ L.map (·.1) = (feedP s0 l).2.1 ∧ FS g W0 H0 B0 w0 (feedP s0 l).1 v L W H B w'
theorem FeedPost.intro {g : Nat} {W0 H0 B0 W H B v : Value} {w0 w' : World} {s0 : PS} {l : List UInt8} {L : List Held1} {r : PS × List Req × Int} {x : Value} (hf : feedP s0 l = r) (hx : x = .tuple #[v, .int .i64 r.2.2]) (hL : L.map (·.1) = r.2.1) (h : FS g W0 H0 B0 w0 r.1 v L W H B w') : FeedPost g W0 H0 B0 w0 s0 l (.returned x) w' := by
  subst hf hx
  exact ⟨v, L, W, H, B, rfl, hL, h⟩
theorem drop_get {l : List UInt8} {k : Nat} (h : k < l.length) : l.drop k = l.getD k 0 :: l.drop (k + 1) := by
  rw [List.drop_eq_getElem_cons h]
  congr 1
  simp [h]
theorem Frm.cell_of {ps : List Nat} {w w' : World} {b o : Nat} (h : Frm ps w w') (hb : b < w.heap.size) (hn : b ∉ ps) : w'.cell? ⟨b, o, none⟩ = w.cell? ⟨b, o, none⟩ := World.cell?_of_block (a := ⟨b, o, none⟩) (h.block b hb hn)
/-- The list that is handed out and the row of one request. -/
theorem req_row {g : Nat} {s : PS} {W H B : Value} {w : World} (P : Par w g s W H B) : w.rangeAt g 4 (reqC (reqOf s, H, B)) := by
  have h := range_row P.row
  intro j u hu
  have := h (4 + j) u (by
    rw [← hu]
    have hj : j < 5 := by
      have := (List.getElem?_eq_some_iff.1 hu).1
      simpa [reqC] using this
    obtain rfl | rfl | rfl | rfl | rfl : j = 0 ∨ j = 1 ∨ j = 2 ∨ j = 3 ∨ j = 4 := by omega
    all_goals rfl)
  rw [Nat.zero_add] at this
  exact this
set_option maxRecDepth 100000 in
set_option maxHeartbeats 2000000 in
theorem feed_any (w : World) (g : Nat) (s : PS) (W H B : Value) (l : List UInt8) (A : Option Addr) (n c : Nat) (P : Par w g s W H B) (hk : Ok s) (hw : ¬ (s.st = 9 ∧ s.lf = 0)) (hen : s.en = false) (hr : Reads w w.heap.size 1 A n (bvs l)) (ha : 0 < n → ∀ b off, A = some ⟨b, off, none⟩ → b ∉ PL g W H B) (hN : (feedP s l).2.1.length * 88 ≤ 140737488355328) (hn : n ≤ 140737488355328) :
    Calls Tryd.prog 10 #[.pointer (some ⟨g, 0, none⟩), .slice A n c] w (FeedPost g W H B w s l) := by
  have e1 := P.at_.2.1
  rw [hen] at e1
  have hln : l.length = n := by have := hr.1; rw [bvs_length] at this; omega
  have F0 : Hid (FI g W H B w s l 0 (.slice none 0 0) w) := ⟨s, [], W, H, B, FS.start P, hk, hw, by simp⟩
  have HR := Lib.hid hr
  have HA := Lib.hid ha
  have HN := Lib.hid hN
  have HLN := Lib.hid hln
  have hnI : (n : Int) ≤ 140737488355328 := by omega
  obtain ⟨i0, hi0, hz0, hz1, hz2⟩ := info_parts reqinfo
  have HI0 := Lib.hid hi0
  have HZ0 := Lib.hid hz0
  have HZ1 := Lib.hid hz1
  have HZ2 := Lib.hid hz2
  clear P hk hw hen hr ha hN hln hn hi0 hz0 hz1 hz2
  go_enter Tryd.func10, Tryd.ntmps10
  go_wp2
  go_step3
  go_wp2
  go_step3
  go_wp2
  go_loopw [6, 7, 21] (fun d t i wr => ∃ k : Nat, k ≤ n ∧ i = .int .i64 (k : Int) ∧ t = .int .i64 0 ∧ Hid (FI g W H B w s l k d wr)) (fun _ _ i _ => n - (intOf i).toNat)
  case atStart => exact ⟨0, Nat.zero_le _, rfl, rfl, F0⟩
  case round =>
    obtain ⟨k, hk, rfl, rfl, hO⟩ := hrel
    by_cases hlt : k < n
    · obtain ⟨s1, L, W1, H1, B1, F, ok, nw, eq⟩ := hO.out
      have hlt' : (k : Int) < (n : Int) := by omega
      have hk0 : (0 : Int) ≤ (k : Int) := by omega
      obtain ⟨bb, off, hA, hbb, hcell⟩ := HR.out.bytes (by omega)
      subst hA
      have cc := hcell k hlt
      rw [← Frm.cell_of (o := off + k) F.stp.frm hbb (HA.out (by omega) bb off rfl)] at cc
      rw [drop_get (by rw [HLN.out]; exact hlt)] at eq
      obtain ⟨x, hx⟩ : ∃ x, x = l.getD k 0 := ⟨_, rfl⟩
      rw [← hx] at cc eq
      have T1 := Lib.hid (take1_any wr g s1 W1 H1 B1 x F.par ok)
      have OK := Lib.hid (take1_ok ok nw (c := x))
      obtain ⟨R, v, hR⟩ : ∃ R v, take1P s1 x = (R, v) := ⟨_, _, rfl⟩
      rw [hR] at T1 OK
      rw [feedP, hR] at eq
      obtain ⟨Ad, cd, hd, _, _⟩ := ownR_form F.held.row
      subst hd
      have HF := Lib.hid F
      have HK := Lib.hid hlt
      clear F ok nw hx hcell hbb hO hR
      by_cases hv : v = 0
      · subst hv
        simp only [ne_eq, not_true_eq_false, if_false] at eq
        have OK1 := Lib.hid (OK.out rfl)
        by_cases hwh : R.st = 9 ∧ R.lf = 0
        · rw [if_pos hwh] at eq
          obtain ⟨h9, hl0⟩ := hwh
          cases hcl : R.cl
          · rw [hcl] at eq
            simp only [Bool.false_eq_true, if_false] at eq
            have EQ := Lib.hid eq
            clear eq
            go_wp2_with (go_at_call 17; go_must (refine T1.out.mono ?_; rintro e w1 ⟨rfl, W2, H2, B2, P1, S1⟩; have F1 := Lib.hid (HF.out.step P1 S1); clear P1 S1))
            go_loopg [6] 1 (fun gh d wx => (gh = 1 ∧ d = .slice Ad L.length cd ∧ Hid (FS g W H B w R (.slice Ad L.length cd) L W2 H2 B2 wx)) ∨ (gh = 0 ∧ Hid (FS g W H B w (zeroP false) d (L ++ [(reqOf R, H2, B2)]) (.slice none 0 0) (.slice none 0 0) (.slice none 0 0) wx)))
            case atStart => exact .inl ⟨rfl, rfl, F1⟩
            case round =>
              rcases hrel with ⟨rfl, rfl, hF⟩ | ⟨rfl, hF⟩
              · skip
                have x_ := hF.out.par.at_
                obtain ⟨x0, _, _, _, _, _, _, _, _, _, x10⟩ := x_
                rw [h9] at x0
                rw [hl0] at x10
                obtain ⟨A6, c6, hH6, _, _⟩ := ownR_form hF.out.par.hs
                obtain ⟨A7, c7, hB7, _, _⟩ := own8_form hF.out.par.bd
                subst hH6 hB7
                obtain ⟨pc, hpc⟩ : ∃ pc : Array Value, pc = (reqC (reqOf R, .slice A6 R.hs.length c6, .slice A7 R.bd.length c7)).toArray := ⟨_, rfl⟩
                have PZ : Hid (pc.size = 5) := by show _ = _; rw [hpc]; rfl
                have PO : Hid ((pc.all fun x => x.oneCell') = true) := by show _ = _; rw [hpc]; kernel_rfl
                have PL_ : Hid (pc.toList = reqC (reqOf R, .slice A6 R.hs.length c6, .slice A7 R.bd.length c7)) := by show _ = _; rw [hpc]
                have RG : Hid (wr.rangeAt g 4 pc.toList) := by show World.rangeAt _ _ _ _; rw [hpc, List.toList_toArray]; exact req_row hF.out.par
                have BL : Hid (Below wr.heap.size wr (wr.alloc (.cells pc 36))) := (Below.refl _ wr).alloc (Nat.le_refl _) _
                have LB : Hid ((L.length + 1) * 88 ≤ 140737488355328) := by
                  show _ ≤ _
                  have h1 := HN.out
                  rw [EQ.out] at h1
                  simp only [List.length_append, List.length_map, List.length_cons] at h1
                  omega
                obtain ⟨zc, hzc⟩ : ∃ zc : Array Value, zc = zeroC false := ⟨_, rfl⟩
                have ZZ : Hid (zc.size = 11) := by show _ = _; rw [hzc]; rfl
                have ZO : Hid ((zc.all fun x => x.oneCell') = true) := by show _ = _; rw [hzc]; kernel_rfl
                have ZB : Hid ((Tryd.prog).built 48 [(1, .bool false)] = some zc) := by show _ = _; rw [hzc]; exact built_zero _
                have ZC := Lib.hid hzc
                clear hpc hzc
                go_wp2_with (first
                  | (refine wpList_load_arr rfl _ _ rfl g 4 rfl pc _ (by with_reducible exact RG.out) Tryd.underlying36 rfl (by rw [PZ.out]; kernel_rfl) ?_)
                  | (refine slice1 (cs := pc) (s := 5) rfl rfl rfl PZ.out Tryd.underlying29 HI0.out HZ0.out HZ1.out (by decide) ?_)
                  | (at_builtin; go_must (refine app1 (cs := pc) (n := L.length) (xs := reqsV L) (base := 0) rfl rfl rfl rfl Tryd.underlying29 HI0.out HZ0.out HZ1.out HZ2.out rfl (by decide) (hF.out.held.below BL.out).row (heap_alloc_new _ _) PZ.out PO.out LB.out (by have h_ := LB.out; omega) (Nat.zero_le _) ?_; intro v5 w5 ho hg hx; rw [PL_.out] at ho; obtain ⟨A5, c5, hv5, _, _⟩ := ownR_form ho; subst hv5; have Q := hF.out.put false BL.out ho hg hx; have R5 := Lib.hid Q.1; have FSP := Q.2; rw [← ZC.out] at FSP; have FSP := Lib.hid FSP; have x8 : w5.cell? ⟨g, 8, none⟩ = some (.bool false) := (by rw [cell_of_row w5 g 8 _ _ _ Q.1]; show some (Value.bool R.cl) = _; rw [hcl]); clear ho hg hx Q x0 x10))
                  | (refine wpList_build_to rfl _ _ rfl [(1, .bool false)] rfl _ (by with_reducible exact ZB.out) ?_)
                  | (refine wpList_store_row rfl _ _ _ rfl g zc rfl rfl 48 _ (by with_reducible exact R5.out) (by rw [ZZ.out]; kernel_rfl) (by rw [ZZ.out]; rfl) ZO.out ?_))
                go_roundg 0
                case rel => exact .inr ⟨rfl, FSP⟩
                case measure => omega
              · have x_ := hF.out.par.at_
                obtain ⟨x0, _, _, _, _, _, _, _, _, _, x10⟩ := x_
                obtain ⟨Ae, ce, he, _, _⟩ := ownR_form hF.out.held.row
                subst he
                have GG : Hid (FI g W H B w s l (k + 1) (.slice Ae (L ++ [(reqOf R, H2, B2)]).length ce) wr) := ⟨zeroP false, _, _, _, _, hF.out, ok_zero false, by simp [zeroP], by rw [EQ.out]; simp⟩
                have x0' : wr.cell? ⟨g, 0, none⟩ = some (.int .i64 0) := x0
                have x10' : wr.cell? ⟨g, 10, none⟩ = some (.int .i64 0) := x10
                clear x0 x10
                go_wp2
                go_roundw
                case rel => exact ⟨k + 1, HK.out, by go_num, rfl, GG⟩
                case measure => simp [intOf]; omega
          · rw [hcl] at eq
            simp only [if_true] at eq
            have EQ := Lib.hid eq
            clear eq
            go_wp2_with (go_at_call 17; go_must (refine T1.out.mono ?_; rintro e w1 ⟨rfl, W2, H2, B2, P1, S1⟩; have F1 := Lib.hid (HF.out.step P1 S1); clear P1 S1))
            go_loopw [6] (fun d wx => d = .slice Ad L.length cd ∧ Hid (FS g W H B w R (.slice Ad L.length cd) L W2 H2 B2 wx)) (fun _ _ => 0)
            case atStart => exact ⟨rfl, F1⟩
            case round =>
              obtain ⟨rfl, hF⟩ := hrel
              have x_ := hF.out.par.at_
              obtain ⟨x0, _, _, _, _, _, _, _, _, _, x10⟩ := x_
              rw [h9] at x0
              rw [hl0] at x10
              obtain ⟨A6, c6, hH6, _, _⟩ := ownR_form hF.out.par.hs
              obtain ⟨A7, c7, hB7, _, _⟩ := own8_form hF.out.par.bd
              subst hH6 hB7
              obtain ⟨pc, hpc⟩ : ∃ pc : Array Value, pc = (reqC (reqOf R, .slice A6 R.hs.length c6, .slice A7 R.bd.length c7)).toArray := ⟨_, rfl⟩
              have PZ : Hid (pc.size = 5) := by show _ = _; rw [hpc]; rfl
              have PO : Hid ((pc.all fun x => x.oneCell') = true) := by show _ = _; rw [hpc]; kernel_rfl
              have PL_ : Hid (pc.toList = reqC (reqOf R, .slice A6 R.hs.length c6, .slice A7 R.bd.length c7)) := by show _ = _; rw [hpc]
              have RG : Hid (wr.rangeAt g 4 pc.toList) := by show World.rangeAt _ _ _ _; rw [hpc, List.toList_toArray]; exact req_row hF.out.par
              have BL : Hid (Below wr.heap.size wr (wr.alloc (.cells pc 36))) := (Below.refl _ wr).alloc (Nat.le_refl _) _
              have LB : Hid ((L.length + 1) * 88 ≤ 140737488355328) := by
                show _ ≤ _
                have h1 := HN.out
                rw [EQ.out] at h1
                simp only [List.length_append, List.length_map, List.length_cons, List.length_nil] at h1
                omega
              obtain ⟨zc, hzc⟩ : ∃ zc : Array Value, zc = zeroC true := ⟨_, rfl⟩
              have ZZ : Hid (zc.size = 11) := by show _ = _; rw [hzc]; rfl
              have ZO : Hid ((zc.all fun x => x.oneCell') = true) := by show _ = _; rw [hzc]; kernel_rfl
              have ZB : Hid ((Tryd.prog).built 48 [(1, .bool true)] = some zc) := by show _ = _; rw [hzc]; exact built_zero _
              have ZC := Lib.hid hzc
              clear hpc hzc
              go_wp2_with (first
                | (refine wpList_load_arr rfl _ _ rfl g 4 rfl pc _ (by with_reducible exact RG.out) Tryd.underlying36 rfl (by rw [PZ.out]; kernel_rfl) ?_)
                | (refine slice1 (cs := pc) (s := 5) rfl rfl rfl PZ.out Tryd.underlying29 HI0.out HZ0.out HZ1.out (by decide) ?_)
                | (at_builtin; go_must (refine app1 (cs := pc) (n := L.length) (xs := reqsV L) (base := 0) rfl rfl rfl rfl Tryd.underlying29 HI0.out HZ0.out HZ1.out HZ2.out rfl (by decide) (hF.out.held.below BL.out).row (heap_alloc_new _ _) PZ.out PO.out LB.out (by have h_ := LB.out; omega) (Nat.zero_le _) ?_; intro v5 w5 ho hg hx; rw [PL_.out] at ho; obtain ⟨A5, c5, hv5, _, _⟩ := ownR_form ho; subst hv5; have Q := hF.out.put true BL.out ho hg hx; have R5 := Lib.hid Q.1; have FSP := Q.2; rw [← ZC.out] at FSP; have FSP := Lib.hid FSP; have x8 : w5.cell? ⟨g, 8, none⟩ = some (.bool true) := (by rw [cell_of_row w5 g 8 _ _ _ Q.1]; show some (Value.bool R.cl) = _; rw [hcl]); clear ho hg hx Q x0 x10))
                | (refine wpList_build_to rfl _ _ rfl [(1, .bool true)] rfl _ (by with_reducible exact ZB.out) ?_)
                | (refine wpList_store_row rfl _ _ _ rfl g zc rfl rfl 48 _ (by with_reducible exact R5.out) (by rw [ZZ.out]; kernel_rfl) (by rw [ZZ.out]; rfl) ZO.out ?_))
              try rw [Exit.noGoto_ret]
              go_ret2
              exact FeedPost.intro EQ.out rfl (by simp) FSP.out
        · rw [if_neg hwh] at eq
          have EQ := Lib.hid eq
          have NW := Lib.hid hwh
          clear eq hwh
          go_wp2_with (go_at_call 17; go_must (refine T1.out.mono ?_; rintro e w1 ⟨rfl, W2, H2, B2, P1, S1⟩; have F1 := Lib.hid (HF.out.step P1 S1); clear P1 S1))
          go_loopw [6] (fun d wx => d = .slice Ad L.length cd ∧ Hid (FS g W H B w R (.slice Ad L.length cd) L W2 H2 B2 wx)) (fun _ _ => 0)
          case atStart => exact ⟨rfl, F1⟩
          case round =>
            obtain ⟨rfl, hF⟩ := hrel
            have x_ := hF.out.par.at_
            obtain ⟨x0, _, _, _, _, _, _, _, _, _, x10⟩ := x_
            have GG : Hid (FI g W H B w s l (k + 1) (.slice Ad L.length cd) wr) := ⟨R, L, W2, H2, B2, hF.out, OK1.out, NW.out, EQ.out⟩
            obtain ⟨s9, hs9⟩ : ∃ z, z = R.st := ⟨_, rfl⟩
            obtain ⟨lf, hlf⟩ : ∃ z, z = R.lf := ⟨_, rfl⟩
            have nw := NW.out
            rw [← hs9, ← hlf] at nw
            rw [← hs9] at x0
            rw [← hlf] at x10
            clear hs9 hlf
            by_cases h9 : s9 = 9
            · subst h9
              have ql : (lf == 0) = false := by simp at nw; simpa using nw
              clear nw
              go_wp2
              go_roundw
              case rel => exact ⟨k + 1, HK.out, by go_num, rfl, GG⟩
              case measure => simp [intOf]; omega
            · have q9 : (s9 == 9) = false := by simpa using h9
              clear nw h9
              go_wp2
              go_roundw
              case rel => exact ⟨k + 1, HK.out, by go_num, rfl, GG⟩
              case measure => simp [intOf]; omega
      · have qv : (v != 0) = true := by simpa using hv
        rw [if_pos hv] at eq
        have EQ := Lib.hid eq
        clear hv eq
        go_wp2_with (go_at_call 17; go_must (refine T1.out.mono ?_; rintro e w1 ⟨rfl, W2, H2, B2, P1, S1⟩; have F1 := Lib.hid (HF.out.step P1 S1); have x1 := P1.at_.2.1; have y1 := P1.fz 1; have P2 := P1.set (s' := { R with en := true }) 1 (.bool true) rfl rfl rfl rfl; have F2 := Lib.hid (F1.out.step P2.1 P2.2); clear P1 S1 P2))
        try rw [Exit.noGoto_ret]
        go_ret2
        exact FeedPost.intro EQ.out rfl (by simp) F2.out
    · obtain rfl : k = n := by omega
      obtain ⟨s1, L, W1, H1, B1, F, ok, nw, eq⟩ := hO.out
      obtain ⟨Ad, cd, hd, _, _⟩ := ownR_form F.held.row
      subst hd
      rw [List.drop_eq_nil_of_le (by rw [HLN.out]; exact Nat.le_refl _)] at eq
      have EQ := Lib.hid eq
      have HF := Lib.hid F
      clear F ok nw eq hO
      go_wp2
      try rw [Exit.noGoto_ret]
      go_ret2
      exact FeedPost.intro EQ.out rfl (by simp [feedP]) HF.out
end Go.Proofs.YtjichadkonlfpaaDoor

namespace Go.Proofs.YtjichadkonlfpaaDoor
open Go.RowKit
theorem Reads.bel {w w' : World} {B sz n : Nat} {A : Option Addr} {xs : List Value} (h : Reads w B sz A n xs) (hb : Below B w w') (hB : B ≤ w'.heap.size) : Reads w' w'.heap.size sz A n xs := by
  refine ⟨h.1, fun h0 => ?_⟩
  obtain ⟨ad, hA, hlt, hc⟩ := h.2 h0
  refine ⟨ad, hA, by omega, fun j u hu => ?_⟩
  have h1 : (ad.add j).block = ad.block := by unfold Addr.add; split <;> rfl
  rw [← hc j u hu]
  exact hb.cell (by rw [h1]; exact hlt)
theorem flat_at {α : Type} (f : α → List Value) (m : Nat) (hf : ∀ x, (f x).length = m) : ∀ (l : List α) (k : Nat) (hk : k < l.length) (j : Nat), j < m → (l.flatMap f)[k * m + j]? = (f l[k])[j]?
  | [], k, hk, _, _ => by simp at hk
  | x :: l, 0, _, j, hj => by
    rw [List.flatMap_cons, List.getElem?_append_left (by rw [hf]; omega), Nat.zero_mul, Nat.zero_add]
    rfl
  | x :: l, k + 1, hk, j, hj => by
    have ih := flat_at f m hf l k (by simpa using hk) j hj
    rw [List.flatMap_cons, List.getElem?_append_right (by rw [hf, Nat.succ_mul]; omega), hf, show (k + 1) * m + j - m = k * m + j from by rw [Nat.succ_mul]; omega, ih]
    rfl
/-- A request where it lies. -/
theorem Held.at_ {w : World} {v : Value} {L : List Held1} (h : Held w v L) (h0 : 0 < L.length) : ∃ b cap, v = .slice (some ⟨b, 0, none⟩) L.length cap ∧ b < w.heap.size ∧ v.ownBlock = some b ∧ ∀ (k : Nat) (hk : k < L.length), w.rangeAt b (k * 5) (reqC L[k]) := by
  obtain ⟨_, h2 | ⟨b, cap, cur, hv, _⟩⟩ := h.row
  · omega
  · have hr0 := h.row
    rw [hv] at hr0
    have hr := Reads.of_own hr0
    obtain ⟨ad, hA, hb, hc⟩ := hr.2 h0
    cases hA
    refine ⟨b, cap, hv, hb, by rw [hv]; rfl, fun k hk j u hu => ?_⟩
    have hj : j < 5 := by
      have := (List.getElem?_eq_some_iff.1 hu).1
      simpa [reqC] using this
    have := hc (k * 5 + j) u (by rw [reqsV, flat_at reqC 5 (fun _ => rfl) L k hk j hj]; exact hu)
    rw [add_none, Nat.zero_add] at this
    exact this
theorem one_of {L : List Held1} {q : Req} (h : L.map (·.1) = [q]) : ∃ x, L = [x] ∧ x.1 = q := by
  rcases L with _ | ⟨x, _ | ⟨y, L⟩⟩
  · simp at h
  · exact ⟨x, rfl, by simpa using h⟩
  · simp at h
def NewPost (w : World) (e : Ending) (w' : World) : Prop := ∃ g, e = .returned (.pointer (some ⟨g, 0, none⟩)) ∧ Par w' g (zeroP false) (.slice none 0 0) (.slice none 0 0) (.slice none 0 0) ∧ Below w.heap.size w w' ∧ w.heap.size ≤ g
set_option maxRecDepth 100000 in
set_option maxHeartbeats 400000 in
theorem new_any (w : World) : Calls Tryd.prog 9 #[] w (NewPost w) := by
  have hz : (Tryd.prog).built 48 [] = some (zeroC false) := by kernel_rfl
  have P := par_zero (heap_alloc_new w (.cells (zeroC false) 48))
  have hp : NewPost w (.returned (.pointer (some ⟨w.heap.size, 0, none⟩))) (w.alloc (.cells (zeroC false) 48)) := ⟨_, rfl, P, (Below.refl _ w).alloc (Nat.le_refl _) _, Nat.le_refl _⟩
  have HP := Lib.hid hp
  clear P hp
  obtain ⟨zc, hzc⟩ : ∃ zc : Array Value, zc = zeroC false := ⟨_, rfl⟩
  rw [← hzc] at HP hz
  have HZ := Lib.hid hz
  clear hz
  clear hzc
  go_enter Tryd.func9, Tryd.ntmps9
  go_wp2_with (refine wpList_build_to rfl _ _ rfl [] rfl _ (by with_reducible exact HZ.out) ?_)
  go_ret
  exact HP.out
set_option maxRecDepth 100000 in
theorem ended_any (w : World) (g : Nat) (s : PS) (W H B : Value) (P : Par w g s W H B) : Calls Tryd.prog 14 #[.pointer (some ⟨g, 0, none⟩)] w fun e w' => e = .returned (.bool s.en) ∧ w' = w := by
  have e1 := P.at_.2.1
  obtain ⟨en, hen⟩ : ∃ en, en = s.en := ⟨_, rfl⟩
  rw [← hen] at e1 ⊢
  clear P hen
  go_enter Tryd.func14, Tryd.ntmps14
  go_wp2
  go_ret
  exact ⟨rfl, rfl⟩
/-- A feed on a parser that has ended. -/
theorem feed_ended (w : World) (g : Nat) (s : PS) (W H B : Value) (x : Value) (P : Par w g s W H B) (hen : s.en = true) : Calls Tryd.prog 10 #[.pointer (some ⟨g, 0, none⟩), x] w fun e w' => e = .returned (.tuple #[.slice none 0 0, .int .i64 0]) ∧ w' = w := by
  have e1 := P.at_.2.1
  rw [hen] at e1
  clear P hen
  go_enter Tryd.func10, Tryd.ntmps10
  go_wp2
  go_step3
  go_wp2
  try rw [Exit.noGoto_ret]
  go_ret2
  exact ⟨rfl, rfl⟩
def awakeB : List UInt8 := [71, 69, 84, 32, 47, 32, 72, 84, 84, 80, 47, 49, 46, 49, 13, 10, 104, 111, 115, 116, 58, 32, 97, 13, 10, 13, 10]
theorem awake_fed : feedP (zeroP false) awakeB = (zeroP false, [⟨[71, 69, 84], [47], [([104, 111, 115, 116], [97])], [], false⟩], 0) := by kernel_rfl
/-- Behind a feed on a parser of the call's own: only what is new has been written. -/
theorem FS.below {g : Nat} {w0 w : World} {s : PS} {v W H B : Value} {L : List Held1} {K : Nat} (h : FS g (.slice none 0 0) (.slice none 0 0) (.slice none 0 0) w0 s v L W H B w) (hK : K ≤ g) (hK2 : K ≤ w0.heap.size) : Below K w0 w :=
  h.stp.frm.below hK2 (fun p hp => by
    have : p = g := by simpa [PL, Value.ownBlock] using hp
    omega)
set_option maxRecDepth 100000 in
set_option maxHeartbeats 1000000 in
theorem awake_any (w : World) : Calls Tryd.prog 7 #[] w fun e w' => e = .returned (.bool true) ∧ Below w.heap.size w w' := by
  have kc := fun (w : World) (C : Array Value) (n c : Nat) => Lib.run_convert_bytes_const (P := Tryd.prog) w 24 5 C n c Tryd.underlying24 Tryd.underlying5
  go_enter Tryd.func7, Tryd.ntmps7
  go_wp2_with (first
    | (go_at_call 9; go_must (refine (new_any w).mono ?_; rintro e w1 ⟨g, rfl, P1, hb, hg⟩; have HP1 := Lib.hid P1; have HB := Lib.hid hb; have HG := Lib.hid hg; clear P1 hb hg))
    | (go_at_call 10; go_must (
        have N1 : Below w1.heap.size w1 (w1.alloc (.cells (bvs awakeB).toArray 5 (27, 28))) := (Below.refl _ _).alloc (Nat.le_refl _) _
        have P2 := HP1.out.below N1
        have hR := reads_block (l := awakeB) (n := 27) (heap_alloc_new w1 (.cells (bvs awakeB).toArray 5 (27, 28))) rfl
        have hg_ := lt_of_heap HP1.out.row
        refine (feed_any _ g (zeroP false) _ _ _ awakeB _ 27 _ P2 (ok_zero false) (by simp [zeroP]) rfl hR (by intro _ b off h; cases h; simp [PL, Value.ownBlock]; omega) (by rw [awake_fed]; decide) (by decide)).mono ?_
        rintro e w3 ⟨v, L, W3, H3, B3, rfl, hL, F⟩
        rw [awake_fed] at hL
        have HF := Lib.hid (Below.trans (HB.out.trans (N1.mono HB.out.size)) (F.below HG.out (Nat.le_trans HB.out.size N1.size)))
        obtain ⟨x, hx, hxv⟩ := one_of hL
        subst hx
        obtain ⟨b, cap, hv, _, _, hat⟩ := F.held.at_ (by simp)
        have ha := hat 0 (by simp)
        have q0 := ha 0 _ rfl
        have q1 := ha 1 _ rfl
        have q4 := ha 4 _ rfl
        rw [show ([x] : List Held1)[0].1 = _ from hxv] at q0 q1 q4
        subst hv
        clear F hR hat ha hL N1 P2 hg_ hxv)))
  go_ret
  exact ⟨rfl, HF.out⟩
end Go.Proofs.YtjichadkonlfpaaDoor
