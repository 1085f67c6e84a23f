/- The texts Y0 Y1 Y2 of this work, merged by wip/merge.py. No conditions. -/
import Derived.Test.YtnkcnnmhgomphaaDoorQZE
import Derived.Test.YtnkcnnmhgomphaaDoorQDC
import Derived.Test.YtnkcnnmhgomphaaDoorQWB
import Derived.Test.YtnkcnnmhgomphaaDoorQG
namespace Go.Proofs.YtnkcnnmhgomphaaDoor
open Go.RowKit
/-- The sectors of a frame's bytes; the first one begins with 'kind', the others with 2. -/
def chunks : Nat → UInt8 → List UInt8 → List (List UInt8)
  | 0, _, _ => []
  | n + 1, kind, b => if b = [] then [] else (kind :: (b.take 63 ++ List.replicate (63 - b.length) 0)) :: chunks n 2 (b.drop 63)
def secsN (n : Nat) : Nat := (n + 82) / 63
theorem chunks_len : ∀ (n : Nat) (k : UInt8) (b : List UInt8), b.length ≤ n → (chunks n k b).length = (b.length + 62) / 63
  | 0, _, b, h => by
    have : b.length = 0 := by omega
    rw [chunks, this]; rfl
  | n + 1, k, b, h => by
    unfold chunks
    by_cases h0 : b = []
    · rw [if_pos h0, h0]; rfl
    · have : 0 < b.length := List.length_pos_iff.2 h0
      rw [if_neg h0, List.length_cons, chunks_len n 2 (b.drop 63) (by rw [List.length_drop]; omega), List.length_drop]
      omega
theorem chunks_64 : ∀ (n : Nat) (k : UInt8) (b : List UInt8), ∀ x ∈ chunks n k b, x.length = 64
  | 0, _, _, x, h => by cases h
  | n + 1, k, b, x, h => by
    unfold chunks at h
    by_cases h0 : b = []
    · rw [if_pos h0] at h; cases h
    · rw [if_neg h0] at h
      rcases List.mem_cons.1 h with rfl | h
      · simp; omega
      · exact chunks_64 n 2 _ x h
/-- Sectors and their places, from one on. -/
def placeL : Nat → List (List UInt8) → List (Nat × List UInt8)
  | _, [] => []
  | n, x :: l => (n, x) :: placeL (n + 1) l
theorem placeL_len : ∀ (n : Nat) (l : List (List UInt8)), (placeL n l).length = l.length
  | _, [] => rfl
  | n, x :: l => by rw [placeL, List.length_cons, placeL_len (n + 1) l]; rfl
theorem placeL_mem : ∀ (n : Nat) (l : List (List UInt8)) (p : Nat × List UInt8), p ∈ placeL n l → n ≤ p.1 ∧ p.1 < n + l.length ∧ p.2 ∈ l
  | _, [], _, h => by cases h
  | n, x :: l, p, h => by
    rcases List.mem_cons.1 h with rfl | h
    · exact ⟨Nat.le_refl _, by simp, by simp⟩
    · have := placeL_mem (n + 1) l p h
      exact ⟨by omega, by rw [List.length_cons]; omega, List.mem_cons_of_mem _ this.2.2⟩
theorem sync_place : ∀ (l : List (List UInt8)) (n : Nat) (s : List (List UInt8)), n + l.length ≤ s.length → syncAll s (placeL n l) = s.take n ++ l ++ s.drop (n + l.length)
  | [], n, s, h => by simp [placeL, syncAll]
  | x :: l, n, s, h => by
    rw [List.length_cons] at h
    have e : syncAll s (placeL n (x :: l)) = syncAll (s.set n x) (placeL (n + 1) l) := rfl
    rw [e, sync_place l (n + 1) (s.set n x) (by rw [List.length_set]; omega)]
    have h1 : (s.set n x).take (n + 1) = s.take n ++ [x] := by
      rw [List.take_add_one, List.getElem?_set_self (by omega)]
      simp [List.take_set_of_le]
    have h2 : (s.set n x).drop (n + 1 + l.length) = s.drop (n + (x :: l).length) := by
      rw [List.drop_set_of_lt (by omega), List.length_cons, show n + 1 + l.length = n + (l.length + 1) from by omega]
    rw [h1, h2]
    simp
/-- A frame's bytes. -/
def zero16 : List UInt8 := List.replicate 16 0
def tagF (K : List Int) (number : Nat) (rec : List UInt8) : List UInt8 := (sumF K (zero16 ++ be8 number ++ rec)).take 16
theorem tagF_len (K : List Int) (number : Nat) (rec : List UInt8) : (tagF K number rec).length = 16 := by
  unfold tagF; rw [List.length_take, sumF_len]; rfl
def frameB (K : List Int) (number : Nat) (rec : List UInt8) : List UInt8 := be4 rec.length ++ tagF K number rec ++ rec
theorem frameB_len (K : List Int) (number : Nat) (rec : List UInt8) : (frameB K number rec).length = rec.length + 20 := by
  unfold frameB
  rw [List.length_append, List.length_append, tagF_len, show (be4 rec.length).length = 4 from rfl]
  omega
def frameS (K : List Int) (number : Nat) (rec : List UInt8) : List (List UInt8) := chunks (rec.length + 20) 1 (frameB K number rec)
theorem frameS_len (K : List Int) (number : Nat) (rec : List UInt8) : (frameS K number rec).length = secsN rec.length := by
  unfold frameS secsN
  rw [chunks_len _ _ _ (by rw [frameB_len]; omega), frameB_len]
theorem frameS_64 (K : List Int) (number : Nat) (rec : List UInt8) : ∀ x ∈ frameS K number rec, x.length = 64 := chunks_64 _ _ _
/-- All frames, from a number on. -/
def framesS (K : List Int) : Nat → List (List UInt8) → List (List UInt8)
  | _, [] => []
  | i, r :: l => frameS K i r ++ framesS K (i + 1) l
theorem framesS_snoc (K : List Int) : ∀ (l : List (List UInt8)) (i : Nat) (r : List UInt8), framesS K i (l ++ [r]) = framesS K i l ++ frameS K (i + l.length) r
  | [], i, r => by simp [framesS]
  | x :: l, i, r => by
    rw [List.cons_append, framesS, framesS_snoc K l (i + 1) r, framesS, List.append_assoc, List.length_cons, show i + 1 + l.length = i + (l.length + 1) from by omega]
end Go.Proofs.YtnkcnnmhgomphaaDoor

namespace Go.Proofs.YtnkcnnmhgomphaaDoor
open Go.RowKit
/-- The 21 cells of a Log. -/
def logC (gd : Nat) (p : Int) (rv : Value) : Array Value := ((Value.pointer (some ⟨gd, 0, none⟩) :: Value.int .u64 0 :: bvs zero16) ++ [Value.int .i64 p, rv, Value.bool false]).toArray
theorem logC_size (gd : Nat) (p : Int) (rv : Value) : (logC gd p rv).size = 21 := rfl
theorem logC_at (gd : Nat) (p p' : Int) (rv : Value) : (logC gd p rv).setIfInBounds 18 (.int .i64 p') = logC gd p' rv := rfl
theorem logC_rec (gd : Nat) (p : Int) (rv rv' : Value) : (logC gd p rv).setIfInBounds 19 rv' = logC gd p rv' := rfl
structure LGx (w : World) (base : Nat) (own od : Nat → Prop) (gd gl : Nat) (s : DS) (S P : Value) (p : Int) (rv : Value) (recs : List (List UInt8)) (vs : List Value) : Prop where
  dsk : Dsk w base od gd s S P
  sub : ∀ k, od k → own k
  blk : w.heap[gl]? = some (.cells (logC gd p rv) 63 (0, 0))
  ogl : own gl
  dgl : ¬ od gl
  lst : OwnLL w base rv recs vs
  ror : ∀ k, rv.ownBlock = some k → own k ∧ ¬ od k ∧ k ≠ gl
  mor : ∀ u ∈ vs, ∀ k, u.ownBlock = some k → own k ∧ ¬ od k ∧ k ≠ gl
  bnd : ∀ k, own k → base ≤ k ∧ k < w.heap.size
def LG (w : World) (base : Nat) (own : Nat → Prop) (gd gl : Nat) (s : DS) (p : Int) (recs : List (List UInt8)) : Prop := ∃ od S P rv vs, LGx w base own od gd gl s S P p rv recs vs
/-- Behind a call on the log. -/
def LAfter (base : Nat) (own : Nat → Prop) (gd gl : Nat) (s : DS) (p : Int) (recs : List (List UInt8)) (w w' : World) : Prop := ∃ own', LG w' base own' gd gl s p recs ∧ Turns own w w' ∧ ∀ k, own' k → own k ∨ w.heap.size ≤ k
theorem row_at {w w' : World} {base : Nat} {e : TypeId} {size : Nat} {v : Value} {n : Nat} {xs : List Value} (h : w.ownsRow base e size v n xs) (hk : ∀ k, v.ownBlock = some k → w'.heap[k]? = w.heap[k]?) : w'.ownsRow base e size v n xs := by
  obtain ⟨h1, h2 | ⟨g, cap, cur, rfl, h3, h4, h5⟩⟩ := h
  · exact ⟨h1, .inl h2⟩
  · exact ⟨h1, .inr ⟨g, cap, cur, rfl, h3, (hk g rfl).trans h4, h5⟩⟩
theorem lst_at {w w' : World} {base : Nat} {v : Value} {ls : List (List UInt8)} {vs : List Value} (h : OwnLL w base v ls vs) (hk : ∀ k, v.ownBlock = some k → w'.heap[k]? = w.heap[k]?) (hm : ∀ u ∈ vs, ∀ k, u.ownBlock = some k → w'.heap[k]? = w.heap[k]?) : OwnLL w' base v ls vs :=
  ⟨row_at h.row hk, fun i hi => by
    obtain ⟨u, hu, ho, hne⟩ := h.each i hi
    exact ⟨u, hu, row_at ho (hm u (List.mem_of_getElem? hu)), hne⟩, h.apart⟩
section
variable {w w' : World} {base gd gl : Nat} {own od : Nat → Prop} {s s' : DS} {S P rv : Value} {p : Int} {recs : List (List UInt8)} {vs : List Value}
theorem LGx.row_lt (h : LGx w base own od gd gl s S P p rv recs vs) : ∀ k, rv.ownBlock = some k → k < w.heap.size := fun k hk => (h.bnd k (h.ror k hk).1).2
theorem LGx.below (h : LGx w base own od gd gl s S P p rv recs vs) (hb : Below w.heap.size w w') : LGx w' base own od gd gl s S P p rv recs vs :=
  ⟨h.dsk.below hb, h.sub, heap_below h.blk hb, h.ogl, h.dgl, lst_at h.lst (fun k hk => hb.block k (h.row_lt k hk)) (fun u hu k hk => hb.block k (h.bnd k (h.mor u hu k hk).1).2), h.ror, h.mor,
    fun k hk => ⟨(h.bnd k hk).1, Nat.lt_of_lt_of_le (h.bnd k hk).2 hb.size⟩⟩
theorem LG.below (h : LG w base own gd gl s p recs) (hb : Below w.heap.size w w') : LG w' base own gd gl s p recs := by
  obtain ⟨od, S, P, rv, vs, h⟩ := h
  exact ⟨od, S, P, rv, vs, h.below hb⟩
theorem LAfter.of_below (h : LG w base own gd gl s p recs) (hb : Below w.heap.size w w') : LAfter base own gd gl s p recs w w' := ⟨own, h.below hb, Turns.of_below hb, fun _ h => .inl h⟩
theorem Turns.more {own own' : Nat → Prop} {w w' : World} (h : Turns own w w') (hs : ∀ k, own k → own' k) : Turns own' w w' := ⟨h.os, h.tape, h.output, h.size, fun k hk hn => h.block k hk fun e => hn (hs k e)⟩
theorem Turns.then {own own' : Nat → Prop} {a b c : World} (h : Turns own a b) (h' : Turns own' b c) (hs : ∀ k, own' k → own k ∨ a.heap.size ≤ k) : Turns own a c :=
  ⟨h'.os.trans h.os, h'.tape.trans h.tape, h'.output.trans h.output, Nat.le_trans h.size h'.size, fun k hk hn => (h'.block k (Nat.lt_of_lt_of_le hk h.size) (fun e => by
    rcases hs k e with e | e
    · exact hn e
    · omega)).trans (h.block k hk hn)⟩
theorem LAfter.trans {a b c : World} {s1 s2 : DS} {p1 p2 : Int} {r1 r2 : List (List UInt8)} {own1 : Nat → Prop} (_h : LG b base own1 gd gl s1 p1 r1) (ht : Turns own a b) (hs : ∀ k, own1 k → own k ∨ a.heap.size ≤ k) (h2 : LAfter base own1 gd gl s2 p2 r2 b c) : LAfter base own gd gl s2 p2 r2 a c := by
  obtain ⟨own2, hL, hT, hS⟩ := h2
  refine ⟨own2, hL, ht.then hT hs, fun k hk => ?_⟩
  rcases hS k hk with h | h
  · exact hs k h
  · exact .inr (Nat.le_trans ht.size h)
/-- A call on the disk. -/
theorem LGx.disk (h : LGx w base own od gd gl s S P p rv recs vs) (hA : After base gd od s' w w') : LAfter base own gd gl s' p recs w w' := by
  obtain ⟨od', S', P', hD, hT, hS⟩ := hA
  have keep : ∀ k, own k → ¬ od k → w'.heap[k]? = w.heap[k]? := fun k hk hn => hT.block k (h.bnd k hk).2 hn
  have nod : ∀ k, k < w.heap.size → ¬ od k → ¬ od' k := fun k hk hn e => by
    rcases hS k e with e | e
    · exact hn e
    · omega
  refine ⟨fun k => own k ∨ od' k, ⟨od', S', P', rv, vs, hD, fun k hk => .inr hk, (keep gl h.ogl h.dgl).trans h.blk, .inl h.ogl, nod gl (h.bnd gl h.ogl).2 h.dgl, ?_, ?_, ?_, ?_⟩, hT.more h.sub, ?_⟩
  · exact lst_at h.lst (fun k hk => keep k (h.ror k hk).1 (h.ror k hk).2.1) (fun u hu k hk => keep k (h.mor u hu k hk).1 (h.mor u hu k hk).2.1)
  · exact fun k hk => ⟨.inl (h.ror k hk).1, nod k (h.bnd k (h.ror k hk).1).2 (h.ror k hk).2.1, (h.ror k hk).2.2⟩
  · exact fun u hu k hk => ⟨.inl (h.mor u hu k hk).1, nod k (h.bnd k (h.mor u hu k hk).1).2 (h.mor u hu k hk).2.1, (h.mor u hu k hk).2.2⟩
  · intro k hk
    rcases hk with hk | hk
    · exact ⟨(h.bnd k hk).1, Nat.lt_of_lt_of_le (h.bnd k hk).2 hT.size⟩
    · exact hD.bnd k hk
  · intro k hk
    rcases hk with hk | hk
    · exact .inl hk
    · rcases hS k hk with e | e
      · exact .inl (h.sub k e)
      · exact .inr e
/-- A cell of the Log is written. -/
theorem LGx.set (h : LGx w base own od gd gl s S P p rv recs vs) (i : Nat) (v : Value) (p' : Int) (hrow : (logC gd p rv).setIfInBounds i v = logC gd p' rv) : LGx (w.setCell ⟨gl, i, none⟩ v) base own od gd gl s S P p' rv recs vs ∧ Turns own w (w.setCell ⟨gl, i, none⟩ v) := by
  have hf := Frm.setCell w gl i v
  have hsz : (w.setCell ⟨gl, i, none⟩ v).heap.size = w.heap.size := by simp [World.setCell]
  have keep : ∀ k, own k → k ≠ gl → (w.setCell ⟨gl, i, none⟩ v).heap[k]? = w.heap[k]? := fun k hk hn => hf.block k (h.bnd k hk).2 (by simpa using hn)
  have hgd : gd ≠ gl := fun e => h.dgl (e ▸ h.dsk.ownG)
  have hD : Dsk (w.setCell ⟨gl, i, none⟩ v) base od gd s S P :=
    ⟨h.dsk.ok, (keep gd (h.sub _ h.dsk.ownG) hgd).trans h.dsk.blk, row_at h.dsk.rowS (fun k hk => keep k (h.sub _ (h.dsk.ownS k hk)) (fun e => h.dgl (e ▸ h.dsk.ownS k hk))), row_at h.dsk.rowP (fun k hk => keep k (h.sub _ (h.dsk.ownP k hk)) (fun e => h.dgl (e ▸ h.dsk.ownP k hk))),
      h.dsk.ownG, h.dsk.ownS, h.dsk.ownP, fun k hk => by rw [hsz]; exact h.dsk.bnd k hk, h.dsk.gS, h.dsk.gP, h.dsk.sP⟩
  refine ⟨⟨hD, h.sub, ?_, h.ogl, h.dgl, ?_, h.ror, h.mor, fun k hk => by rw [hsz]; exact h.bnd k hk⟩, ⟨hf.os, hf.tape, hf.output, hf.size, fun k hk hn => hf.block k hk (by intro e; simp at e; exact hn (e ▸ h.ogl))⟩⟩
  · rw [← hrow]
    exact heap_setCell_same w gl i _ _ _ h.blk
  · exact lst_at h.lst (fun k hk => keep k (h.ror k hk).1 (h.ror k hk).2.2) (fun u hu k hk => keep k (h.mor u hu k hk).1 (h.mor u hu k hk).2.2)
theorem LGx.cell (h : LGx w base own od gd gl s S P p rv recs vs) {i : Nat} {v : Value} (hv : (logC gd p rv)[i]? = some v) : w.cell? ⟨gl, i, none⟩ = some v := by
  rw [cell_of_row _ gl i _ _ _ h.blk]; exact hv
theorem LGx.c0 (h : LGx w base own od gd gl s S P p rv recs vs) : w.cell? ⟨gl, 0, none⟩ = some (.pointer (some ⟨gd, 0, none⟩)) := h.cell rfl
theorem LGx.c1 (h : LGx w base own od gd gl s S P p rv recs vs) : w.cell? ⟨gl, 1, none⟩ = some (.int .u64 0) := h.cell rfl
theorem LGx.c18 (h : LGx w base own od gd gl s S P p rv recs vs) : w.cell? ⟨gl, 18, none⟩ = some (.int .i64 p) := h.cell rfl
theorem LGx.c19 (h : LGx w base own od gd gl s S P p rv recs vs) : w.cell? ⟨gl, 19, none⟩ = some rv := h.cell rfl
theorem LGx.c20 (h : LGx w base own od gd gl s S P p rv recs vs) : w.cell? ⟨gl, 20, none⟩ = some (.bool false) := h.cell rfl
theorem LGx.salt (h : LGx w base own od gd gl s S P p rv recs vs) : w.rangeAt gl 2 (bvs zero16) := fun j v hv => by
  rw [cell_of_row _ gl (2 + j) _ _ _ h.blk]
  have hj : j < 16 := (List.getElem?_eq_some_iff.1 hv).1
  unfold logC
  rw [List.getElem?_toArray, List.getElem?_append_left (by simp [bvs_length, zero16]; omega), show 2 + j = j + 1 + 1 from by omega, List.getElem?_cons_succ, List.getElem?_cons_succ]
  exact hv
end
end Go.Proofs.YtnkcnnmhgomphaaDoor

namespace Go.Proofs.YtnkcnnmhgomphaaDoor
open Go.RowKit
variable {w w' : World} {base gd gl : Nat} {own od : Nat → Prop} {s s' : DS} {S P rv : Value} {p : Int} {recs : List (List UInt8)} {vs : List Value}
theorem sectors_any (n : Nat) (hn : n ≤ 140737488355328) (w : World) : Calls Tryd.prog 31 #[.int .i64 (n : Int)] w fun e w' => e = .returned (.int .i64 (secsN n : Int)) ∧ w' = w := by
  have e1 : (20 + (n : Int) + 63 - 1) / 63 = (secsN n : Int) := by unfold secsN; omega
  have E1 := Lib.hid e1
  clear e1
  have hnI : (n : Int) ≤ 140737488355328 := by omega
  have hn0 : (0 : Int) ≤ (n : Int) := by omega
  go_enter Tryd.func31, Tryd.ntmps31
  go_wp2
  go_ret
  exact ⟨(show Ending.returned (.int .i64 ((20 + (n : Int) + 63 - 1) / 63)) = _ from by rw [E1.out]), rfl⟩
theorem Sectors_any (h : Dsk w base own gd s S P) : Calls Tryd.prog 21 #[.pointer (some ⟨gd, 0, none⟩)] w fun e w' => e = .returned (.int .i64 (s.secs.length : Int)) ∧ w' = w := by
  obtain ⟨A, c, rfl⟩ := h.formS
  have f0 := h.field (i := 0) rfl
  go_enter Tryd.func21, Tryd.ntmps21
  go_wp2
  go_ret
  exact ⟨rfl, rfl⟩
theorem area_any (h : LGx w base own od gd gl s S P p rv recs vs) : Calls Tryd.prog 32 #[.pointer (some ⟨gl, 0, none⟩)] w fun e w' => e = .returned (.int .i64 (s.secs.length / 2 : Nat)) ∧ w' = w := by
  have f0 := h.cell (i := 0) rfl
  have hm := h.dsk.ok.max
  have HD := Lib.hid h.dsk
  obtain ⟨n, hn⟩ : ∃ n, n = s.secs.length := ⟨_, rfl⟩
  have hnI : (n : Int) ≤ 65536 := by omega
  have hn0 : (0 : Int) ≤ (n : Int) := by omega
  have HN := Lib.hid hn
  clear hm hn h
  go_enter Tryd.func32, Tryd.ntmps32
  go_wp2_with (go_at_call 21; go_must (refine (Sectors_any HD.out).mono ?_; rintro e w' ⟨rfl, rfl⟩; rw [← HN.out]))
  go_ret
  exact ⟨(show Ending.returned (.int .i64 ((n : Int) / 2)) = _ from by rw [← HN.out]; rfl), rfl⟩
theorem base_any (h : LGx w base own od gd gl s S P p rv recs vs) (gen : Nat) (hgen : gen < 2) : Calls Tryd.prog 23 #[.pointer (some ⟨gl, 0, none⟩), .int .u64 (gen : Int)] w fun e w' => e = .returned (.int .i64 ((gen * (s.secs.length / 2) : Nat) : Int)) ∧ w' = w := by
  have hm := h.dsk.ok.max
  have HL := Lib.hid h
  obtain ⟨n, hn⟩ : ∃ n, n = s.secs.length / 2 := ⟨_, rfl⟩
  have hnI : (n : Int) ≤ 65536 := by omega
  have hn0 : (0 : Int) ≤ (n : Int) := by omega
  have HN := Lib.hid hn
  have hg : (gen : Int) % 2 = (gen : Int) := by omega
  have hg0 : (0 : Int) ≤ (gen : Int) := by omega
  have hg1 : (gen : Int) < 2 := by omega
  have hgm : 0 ≤ (gen : Int) * (n : Int) ∧ (gen : Int) * (n : Int) ≤ 131072 := by
    have h1 : (gen : Int) * (n : Int) = ((gen * n : Nat) : Int) := by simp
    have h2 : gen * n ≤ 2 * 65536 := Nat.mul_le_mul (by omega) (by omega)
    rw [h1]; omega
  obtain ⟨hgm0, hgm1⟩ := hgm
  clear hm hn h
  go_enter Tryd.func23, Tryd.ntmps23
  go_wp2_with (go_at_call 32; go_must (refine (area_any HL.out).mono ?_; rintro e w' ⟨rfl, rfl⟩; rw [← HN.out]))
  go_ret
  exact ⟨(show Ending.returned (.int .i64 ((gen : Int) * (n : Int))) = _ from by rw [← HN.out, Int.natCast_mul]), rfl⟩
theorem slAll16 (g o : Nat) (w : World) : (Instr.sliceAt 61 (.pointer (some ⟨g, o, none⟩)) none none none).run Tryd.prog w = .ok (.slice (some ⟨g, o, none⟩) 16 16) w := by
  have e64 : Tryd.prog.arrayLen 61 = 16 := by kernel_rfl
  have h1 := run_sliceAt_array_all (P := Tryd.prog) w 61 ⟨g, o, none⟩ (by kernel_rfl)
  have hs : (sizeOf (Tryd.prog.elem 61)).run Tryd.prog w = .ok 1 w := by kernel_rfl
  rw [h1, hs, Result.andThen_ok, e64]
  unfold slicedAt
  rw [if_neg (by omega), add_none, Nat.zero_mul, Nat.add_zero]
def SumTPost (K : List Int) (number : Nat) (rec : List UInt8) (w : World) (e : Ending) (w' : World) : Prop := ∃ g, e = .returned (.slice (some ⟨g, 0, none⟩) 16 32) ∧ w.heap.size ≤ g ∧ Reads w' w'.heap.size 1 (some ⟨g, 0, none⟩) 16 (bvs (tagF K number rec)) ∧ Below w.heap.size w w'
theorem reads_bel {w w' : World} {n : Nat} {A : Option Addr} {xs : List Value} (h : Reads w w.heap.size 1 A n xs) (hb : Below w.heap.size w w') : Reads w' w'.heap.size 1 A n xs := (h.below hb).more hb.size
theorem reads_ne {w : World} {n B : Nat} {A : Option Addr} {xs : List Value} (h : Reads w B 1 A n xs) (h0 : 0 < n) {g : Nat} (hg : B ≤ g) : ∀ ad, A = some ad → ad.block ≠ g := by
  intro ad e
  obtain ⟨ad', e', hb, _⟩ := h.2 h0
  rw [e] at e'
  cases e'
  omega
set_option maxRecDepth 100000 in
set_option maxHeartbeats 1000000 in
theorem HWrite_zero (A : Option Addr) (c g : Nat) (K : List Int) (m : List UInt8) (w : World) (hh : Hs w g K m) :
    Calls Tryd.prog 53 #[.pointer (some ⟨g, 0, none⟩), .slice A 0 c] w (HWritePost g K m w) := by
  have HH := Lib.hid hh
  clear hh
  go_enter Tryd.func53, Tryd.ntmps53
  go_wp2
  go_loopw [1] (fun s wr => s = .slice A 0 c ∧ w = wr) (fun _ _ => 0)
  case atStart => exact ⟨rfl, rfl⟩
  case round =>
    obtain ⟨rfl, rfl⟩ := hrel
    go_wp2
    go_end0
    exact ⟨rfl, Frm.refl _ _, HH.out⟩
theorem HWrite2_any (A : Option Addr) (n c g : Nat) (K : List Int) (m b : List UInt8) (w : World) (hh : Hs w g K m) (hkt : KT w K) (hg0 : g ≠ 0) (hr : Reads w w.heap.size 1 A n (bvs b)) (hc : n ≤ c) (hA : 0 < n → ∀ ad, A = some ad → ad.block ≠ g) (hl : m.length + b.length ≤ 4611686018427387904) :
    Calls Tryd.prog 53 #[.pointer (some ⟨g, 0, none⟩), .slice A n c] w (HWritePost g K (m ++ b) w) := by
  rcases Nat.eq_zero_or_pos n with h0 | h0
  · subst h0
    have hb : b = [] := by
      have := hr.1
      rw [bvs_length] at this
      exact List.eq_nil_of_length_eq_zero (by omega)
    rw [hb, List.append_nil]
    exact HWrite_zero A c g K m w hh
  · exact HWrite_any A n c g K m b w hh hkt hg0 hr hc (hA h0) hl
/-- A Hash under way, made since w0. -/
def HW (w0 w : World) (g : Nat) (K : List Int) (m : List UInt8) : Prop := Hs w g K m ∧ Below w0.heap.size w0 w ∧ w0.heap.size ≤ g ∧ KT w K ∧ g ≠ 0
def HWPost (w0 : World) (g : Nat) (K : List Int) (m : List UInt8) (w : World) (e : Ending) (w' : World) : Prop := e = .returned (.tuple #[]) ∧ HW w0 w' g K m ∧ Frm [g] w w'
theorem HW_write {w0 w : World} {g : Nat} {K : List Int} {m : List UInt8} (h : HW w0 w g K m) (A : Option Addr) (n c : Nat) (b : List UInt8) (hr : Reads w w.heap.size 1 A n (bvs b)) (hc : n ≤ c) (hA : 0 < n → ∀ ad, A = some ad → ad.block ≠ g) (hl : m.length + b.length ≤ 4611686018427387904) :
    Calls Tryd.prog 53 #[.pointer (some ⟨g, 0, none⟩), .slice A n c] w (HWPost w0 g K (m ++ b) w) :=
  (HWrite2_any A n c g K m b w h.1 h.2.2.2.1 h.2.2.2.2 hr hc hA hl).mono fun _ _ h' => ⟨h'.1, ⟨h'.2.2, h.2.1.trans (h'.2.1.below h.2.1.size (by have := h.2.2.1; simp; exact this)), h.2.2.1, h.2.2.2.1.frm h'.2.1 (by have := h.2.2.2.2; simp; omega), h.2.2.2.2⟩, h'.2.1⟩
theorem HW.below {w0 w w' : World} {g : Nat} {K : List Int} {m : List UInt8} (h : HW w0 w g K m) (hb : Below w.heap.size w w') : HW w0 w' g K m := by
  obtain ⟨⟨buf, h1, h2, h3⟩, h4, h5, h6, h7⟩ := h
  exact ⟨⟨buf, h1, h2, heap_below h3 hb⟩, h4.trans (hb.mono h4.size), h5, h6.bel hb, h7⟩
set_option maxRecDepth 100000 in
set_option maxHeartbeats 2000000 in
theorem sum_any (K : List Int) (number : Nat) (hnum : number < 4294967296) (A : Option Addr) (n c : Nat) (rec : List UInt8) (w : World) (hr : Reads w w.heap.size 1 A n (bvs rec)) (hA : 0 < n → ∀ ad, A = some ad → ad.block < w.heap.size) (hc : n ≤ c) (hn : n ≤ 1000000) (hkt : KT w K) :
    Calls Tryd.prog 44 #[.agg (bvs zero16).toArray, .int .u64 (number : Int), .slice A n c] w (SumTPost K number rec w) := by
  have hl : rec.length = n := by have := hr.1; rw [bvs_length] at this; omega
  have HL := Lib.hid hl
  have HR := Lib.hid hr
  have HA := Lib.hid hA
  have HK := Lib.hid hkt
  have HC := Lib.hid hc
  have HNN := Lib.hid hn
  have hpos : Hid (w.heap.size ≠ 0) := by show _ ≠ _; have := hkt.1; omega
  obtain ⟨zs, hzs⟩ : ∃ zs : Array Value, zs = (bvs zero16).toArray := ⟨_, rfl⟩
  rw [← hzs]
  have HZ := Lib.hid hzs
  have hz1 : zs.size = 16 := by rw [hzs]; rfl
  have HNM := Lib.hid hnum
  have hsl := slAll16
  obtain ⟨ys, hys⟩ : ∃ zs : Array Value, zs = (bvs (List.replicate 32 0)).toArray := ⟨_, rfl⟩
  have hz32 := zero32
  rw [← hys] at hz32
  have HYZ : Hid (ys.size = 32) := by show _ = _; rw [hys]; rfl
  have T0 : Hid True := trivial
  clear hl hr hA hkt hc hn hzs hnum hys
  go_enter Tryd.func44, Tryd.ntmps44
  have B0 : Hid (Below w.heap.size w (w.alloc (.cells zs 61))) := by show Below _ _ _; exact (Below.refl _ _).alloc (Nat.le_refl _) _
  have R0 : Hid ((w.alloc (.cells zs 61)).heap[w.heap.size]? = some (.cells zs 61 (0, 0))) := heap_alloc_new w _
  go_wp2_with (first
    | (go_at_call 52; have hx_ := T0; go_must (refine (HNew_any K _).mono ?_; rintro e w1 ⟨g, rfl, hg, hb, hh⟩; have B1 := Lib.hid (B0.out.trans (hb.mono B0.out.size)); have R1 := Lib.hid (heap_below R0.out hb); have HG : Hid (w.heap.size < g) := (by show _ < _; simp at hg; omega); have H1 : Hid (HW w w1 g K []) := ⟨hh, B1.out, Nat.le_of_lt HG.out, HK.out.bel B1.out, (by have := HG.out; omega)⟩; have T1 := T0; clear hg hb hh T0 hx_))
    | (go_at_call 53; have hx_ := T1; go_must (refine (HW_write H1.out (some ⟨w.heap.size, 0, none⟩) 16 16 zero16 (by have h_ := R1.out; rw [HZ.out] at h_; exact reads_block h_ rfl) (Nat.le_refl _) (by have := HG.out; intro _ ad e_; cases e_; show w.heap.size ≠ g; omega) (by simp [zero16])).mono ?_; rintro e w2 ⟨rfl, h2, hf⟩; have H2 := Lib.hid h2; have T2 := T1; clear T1 hx_ h2 hf))
    | (go_at_call 40; go_must (refine (Num_any number (by have := HNM.out; omega) _).mono ?_; rintro e w3 ⟨v, rfl, hv, hb⟩; obtain ⟨A8, c8, rfl, hc8, hr8⟩ := own8_form hv; have HV := Lib.hid (And.intro (own8_lt hv) (And.intro hc8 hr8)); have H3 := Lib.hid (H2.out.below hb); have G3 := Lib.hid (Nat.lt_of_lt_of_le H2.out.1.lt hb.size); have G2 := Lib.hid H2.out.1.lt; clear hv hb hc8 hr8))
    | (go_at_call 53; have hx_ := T2; go_must (refine (HW_write H3.out _ _ _ (be8 number) HV.out.2.2 HV.out.2.1 (by have h_ := HV.out.1; have h2_ := G2.out; intro _ ad e_; subst e_; have h3_ := h_ ad.block rfl; omega) (by simp [zero16, be8_length])).mono ?_; rintro e w4 ⟨rfl, h4, hf⟩; have H4 := Lib.hid h4; have T3 := T2; clear T2 hx_ h4 hf))
    | (go_at_call 53; have hx_ := T3; go_must (refine (HW_write H4.out A n c rec (reads_bel HR.out H4.out.2.1) HC.out (by have h_ := HA.out; have h2_ := HG.out; intro h0_ ad e_; have h3_ := h_ h0_ ad e_; omega) (by have h_ := HL.out; have h2_ := HNN.out; simp [zero16, be8_length]; omega)).mono ?_; rintro e w5 ⟨rfl, h5, hf⟩; have H5 := Lib.hid h5; have T4 := T3; clear T3 hx_ h5 hf))
    | (go_at_call 54; have hx_ := T4; go_must (refine (Sum_any g K _ w5 H5.out.1 H5.out.2.2.2.1 (by have h_ := HL.out; have h2_ := HNN.out; simp [zero16, be8_length]; omega)).mono ?_; rintro e w6 ⟨rfl, hb⟩; have H6 := Lib.hid (H5.out.2.1.trans (hb.mono H5.out.2.1.size)); obtain ⟨OUT, hOUT⟩ : ∃ O, O = (bvs (sumF K (zero16 ++ be8 number ++ rec))).toArray := ⟨_, rfl⟩; rw [List.nil_append, ← hOUT]; have HOZ : Hid (OUT.size = 32) := (by show _ = _; rw [hOUT]; simp [bvs_length, sumF_len]); have HO1 : Hid (OUT.all (·.oneCell') = true) := (by show _ = _; rw [hOUT]; exact all_oneCell_toArray (bvs_one _)); have HOUT := Lib.hid hOUT; clear hOUT hb T4 hx_))
    | (refine wpList_store_row rfl _ _ _ rfl w6.heap.size OUT rfl rfl 90 ys (by exact heap_alloc_new w6 _) (by rw [HOZ.out]; kernel_rfl) (by rw [HYZ.out, HOZ.out]) HO1.out ?_))
  go_ret
  have hrow := heap_setRow (cs := OUT) (heap_alloc_new w6 (.cells ys 90))
  have hfr := (Frm.setRow (w6.alloc (.cells ys 90)) w6.heap.size OUT)
  refine ⟨w6.heap.size, rfl, H6.out.size, ?_, H6.out.trans ((((Below.refl _ w6).alloc (Nat.le_refl _) _).trans (hfr.1.below (by simp) (by simp))).mono H6.out.size)⟩
  refine ⟨by rw [bvs_length, tagF_len], fun _ => ⟨_, rfl, lt_of_heap hrow, fun j u hu => ?_⟩⟩
  rw [add_none, Nat.zero_add, cell_of_row _ w6.heap.size j _ _ _ hrow, HOUT.out]
  have hj : j < 16 := by have := (List.getElem?_eq_some_iff.1 hu).1; rw [bvs_length, tagF_len] at this; exact this
  unfold tagF at hu
  rw [List.getElem?_toArray]
  simp only [bvs, List.getElem?_map, List.getElem?_take, if_pos hj] at hu ⊢
  exact hu
end Go.Proofs.YtnkcnnmhgomphaaDoor
