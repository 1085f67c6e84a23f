/- The reference's disk in memory: the same state, its own layout. No conditions. -/
import Derived.Test.YtdggibigfocadaaD14
namespace Go.Proofs.Ytdggibigfocadaa
open Go.RowKit
theorem wrinfo : (Try.prog.info? 62).map (fun i => (i.zero, i.size, i.bytes)) = some (some (.agg (Value.int .i64 0 :: bvs (List.replicate 64 0)).toArray), 65, 72) := by kernel_rfl
/-- How the reference keeps its fuse. -/
def fuseR (s : DS) : Int := if s.lit then s.fuse else -1
/-- The disk at block g; its blocks are 'own'. -/
structure Rdk (w : World) (base : Nat) (own : Nat → Prop) (g : Nat) (s : DS) (S P : Value) : Prop where
  ok : s.ok
  blk : w.heap[g]? = some (.cells #[S, P, .bool s.full, .int .i64 (fuseR s), .bool s.down] 60 (0, 0))
  rowS : w.ownsRow base 28 64 S s.secs.length (cellsS s.secs)
  rowP : w.ownsRow base 62 65 P s.pend.length (cellsP s.pend)
  ownG : own g
  ownS : ∀ k, S.ownBlock = some k → own k
  ownP : ∀ k, P.ownBlock = some k → own k
  bnd : ∀ k, own k → base ≤ k ∧ k < w.heap.size
  gS : S.ownBlock ≠ some g
  gP : P.ownBlock ≠ some g
  sP : S.ownBlock = none ∨ S.ownBlock ≠ P.ownBlock

variable {w w' w0 : World} {base g : Nat} {own : Nat → Prop} {s : DS} {S P : Value}

theorem Rdk.field (h : Rdk w base own g s S P) {i : Nat} {v : Value} (hv : (#[S, P, .bool s.full, .int .i64 (fuseR s), .bool s.down] : Array Value)[i]? = some v) : w.cell? ⟨g, i, none⟩ = some v := by
  rw [cell_of_row _ g i _ _ _ h.blk]; exact hv
theorem Rdk.unfrozen (h : Rdk w base own g s S P) (i : Nat) : w.frozen? ⟨g, i, none⟩ = false := by
  simp [World.frozen?, h.blk]
theorem Rdk.lt (h : Rdk w base own g s S P) : g < w.heap.size := (h.bnd g h.ownG).2
/-- A field of one of the four plain ones is written. -/
theorem Rdk.put (h : Rdk w base own g s S P) {i : Nat} {v : Value} {s' : DS} (h1 : s'.secs = s.secs) (h2 : s'.pend = s.pend)
    (hv : (#[S, P, .bool s.full, .int .i64 (fuseR s), .bool s.down] : Array Value).setIfInBounds i v = #[S, P, .bool s'.full, .int .i64 (fuseR s'), .bool s'.down]) :
    Rdk (w.setCell ⟨g, i, none⟩ v) base own g s' S P ∧ Turns own w (w.setCell ⟨g, i, none⟩ v) := by
  have hg : w.grownBy (w.setCell ⟨g, i, none⟩ v) (some g) := ⟨rfl, rfl, rfl, by simp [World.setCell], fun k _ hk => Below.heap_setCell _ _ _ _ (fun e => hk (by rw [e]))⟩
  have hsz : (w.setCell ⟨g, i, none⟩ v).heap.size = w.heap.size := by simp [World.setCell]
  refine ⟨⟨⟨h1 ▸ h.ok.secs, by rw [h1, h2]; exact h.ok.pend, h1 ▸ h.ok.max⟩, ?_, ?_, ?_, h.ownG, h.ownS, h.ownP, fun k hk => by rw [hsz]; exact h.bnd k hk, h.gS, h.gP, h.sP⟩, ⟨rfl, rfl, rfl, by omega, fun k _ hk => Below.heap_setCell _ _ _ _ (fun e => hk (by rw [e]; exact h.ownG))⟩⟩
  · rw [← hv]; exact heap_setCell_same w g i _ _ v h.blk
  · rw [h1]; exact World.ownsRow.kept h.rowS hg (.inr h.gS)
  · rw [h2]; exact World.ownsRow.kept h.rowP hg (.inr h.gP)
theorem Rdk.below (h : Rdk w base own g s S P) (hb : Below w.heap.size w w') : Rdk w' base own g s S P :=
  ⟨h.ok, (hb.block g h.lt).trans h.blk, World.ownsRow.kept h.rowS ⟨hb.os, hb.tape, hb.output, hb.size, fun k hk _ => hb.block k hk⟩ (row := none) (by cases S.ownBlock <;> simp),
   World.ownsRow.kept h.rowP ⟨hb.os, hb.tape, hb.output, hb.size, fun k hk _ => hb.block k hk⟩ (row := none) (by cases P.ownBlock <;> simp), h.ownG, h.ownS, h.ownP, fun k hk => ⟨(h.bnd k hk).1, Nat.lt_of_lt_of_le (h.bnd k hk).2 hb.size⟩, h.gS, h.gP, h.sP⟩


theorem Rdk.formS (h : Rdk w base own g s S P) : ∃ A c, S = .slice A s.secs.length c := by
  obtain ⟨_, ⟨rfl, h0⟩ | ⟨g', cap, cur, rfl, _⟩⟩ := h.rowS
  · exact ⟨none, 0, by rw [h0]⟩
  · exact ⟨_, cap, rfl⟩
theorem Rdk.formP (h : Rdk w base own g s S P) : ∃ A c, P = .slice A s.pend.length c := by
  obtain ⟨_, ⟨rfl, h0⟩ | ⟨g', cap, cur, rfl, _⟩⟩ := h.rowP
  · exact ⟨none, 0, by rw [h0]⟩
  · exact ⟨_, cap, rfl⟩


theorem appE {ops : Array Oper} {rest : List Oper} {o : Oper} {a : Act} {w : World} {Q : Exit → Act → World → Prop} {s x : Operand} {base B c : Nat} {v : Value} {l : List (Nat × List UInt8)} {A : Option Addr} {p : Nat × List UInt8}
    (hgd : o.guard = none) (ho : o.op = .call { callee := .builtin .append, args := #[s, x], argTypes := #[58, 58] })
    (hs : a.eval s = v) (hx : a.eval x = .slice A 1 c) (hown : w.ownsRow base 62 65 v l.length (cellsP l)) (hr : Reads w B 65 A 1 (cellsP [p])) (hbytes : (l.length + 1) * 72 ≤ 140737488355328) (hbase : base ≤ w.heap.size)
    (h : ∀ v' w', w'.ownsRow base 62 65 v' (l ++ [p]).length (cellsP (l ++ [p])) → w.grownBy w' v.ownBlock → (v'.ownBlock = v.ownBlock ∨ v'.ownBlock = some w.heap.size) → wpList Try.prog ops Q rest (a.put o.dst v') w') : wpList Try.prog ops Q (o :: rest) a w := by
  obtain ⟨i0, hi0, hz0, hz1, hz2⟩ := info_parts wrinfo
  refine wpList_append_any w hgd s x _ ho base 62 i0 _ 65 72 Try.underlying58 hi0 hz0 hz1 hz2 (by rfl) (by omega) v l.length (cellsP l) hs hown B A 1 c (cellsP [p]) hx hr (cellsP_one _) (by simp only [maxLen]; omega) (by omega) hbase ?_
  intro v' w' h1 h2 h3
  refine h v' w' ?_ h2 h3
  rw [List.length_append, cellsP_append]
  exact h1

theorem built_write (n : Int) (d : List UInt8) (hd : d.length = 64) : Try.prog.built 62 [(0, .int .i64 n), (1, .agg (bvs d).toArray)] = some (Value.int .i64 n :: bvs d).toArray := by
  obtain ⟨i0, hi0, hz0, hz1, hz2⟩ := info_parts wrinfo
  have hp : (Try.prog.built 62 [(0, .int .i64 n), (1, .agg (bvs d).toArray)]) = Instr.fill ((#[(0, 1), (1, 64)] : Array (Nat × Nat))[·]?) (Value.agg (Value.int .i64 0 :: bvs (List.replicate 64 0)).toArray).cells [(0, .int .i64 n), (1, .agg (bvs d).toArray)] := by
    kernel_rfl
  rw [hp]
  exact fill_two _ _ _ _ rfl (by simp [Value.cells, bvs]) (by rw [bvs_length]; exact hd) rfl rfl
theorem buildE {ops : Array Oper} {rest : List Oper} {o : Oper} {a : Act} {w : World} {Q : Exit → Act → World → Prop} {x y : Operand} {n : Int} {d : List UInt8} (hg : o.guard = none) (ho : o.op = .build 62 #[(0, x), (1, y)])
    (hx : a.eval x = .int .i64 n) (hy : a.eval y = .agg (bvs d).toArray) (hd : d.length = 64) (h : wpList Try.prog ops Q rest (a.put o.dst (.agg (Value.int .i64 n :: bvs d).toArray)) w) : wpList Try.prog ops Q (o :: rest) a w := by
  have hb : Try.prog.built 62 ((#[(0, x), (1, y)] : Array (Nat × Operand)).map fun (i, x) => (i, a.eval x)).toList = some (Value.int .i64 n :: bvs d).toArray := by
    simp only [List.map_toArray, List.map_cons, List.map_nil, hx, hy]
    exact built_write n d hd
  refine wpList_plain hg fun K hK => wp_build _ _ ho (by rw [hb]; rfl) ?_
  rw [hb]
  exact hK _ _ h
theorem sliceE {ops : Array Oper} {rest : List Oper} {o : Oper} {a : Act} {w : World} {Q : Exit → Act → World → Prop} {x : Operand} {cs : List Value} (hg : o.guard = none) (ho : o.op = .buildSlice 58 1 #[(0, x)])
    (hx : a.eval x = .agg cs.toArray) (hl : cs.length = 65) (h : wpList Try.prog ops Q rest (a.put o.dst (.slice (some ⟨w.heap.size, 0, none⟩) 1 1)) (w.alloc (.cells cs.toArray 62))) : wpList Try.prog ops Q (o :: rest) a w := by
  obtain ⟨i0, hi0, hz0, hz1, hz2⟩ := info_parts wrinfo
  refine wpList_buildSlice hg _ _ 1 _ ho cs.toArray i0 _ Try.underlying58 hi0 hz0 (by rw [hz1]; omega) (by rw [hz1]; omega) ?_ h
  simp only [List.map_toArray, List.map_cons, List.map_nil, hx, hz1]
  have := Go.Great.fill_whole (s := 65) (by omega) [Value.agg cs.toArray] ((Array.range (1 * 65)).map ((Value.agg (Value.int .i64 0 :: bvs (List.replicate 64 0)).toArray).cells[· % (Value.agg (Value.int .i64 0 :: bvs (List.replicate 64 0)).toArray).cells.size]!)) (fun v hv => by simp at hv; subst hv; simp [Value.cells, hl]) (by simp)
  refine this.trans ?_
  simp [Value.cells]

/-- The pending writes have a new slice, which is stored. -/
theorem Rdk.repend {w w5 : World} (h : Rdk w base own g s S P) {v : Value} {l : List (Nat × List UInt8)} (hg : w.grownBy w5 P.ownBlock) (hrow : w5.ownsRow base 62 65 v l.length (cellsP l))
    (hv : v.ownBlock = none ∨ v.ownBlock = P.ownBlock ∨ v.ownBlock = some w.heap.size) (hl : ∀ p ∈ l, p.1 < s.secs.length ∧ p.2.length = 64) :
    Rdk (w5.setCell ⟨g, 1, none⟩ v) base (fun k => own k ∨ v.ownBlock = some k) g { s with pend := l } S v ∧ Turns own w (w5.setCell ⟨g, 1, none⟩ v) ∧ ∀ k, (own k ∨ v.ownBlock = some k) → own k ∨ w.heap.size ≤ k := by
  have hvg : v.ownBlock ≠ some g := by
    rcases hv with e | e | e
    · rw [e]; simp
    · rw [e]; exact h.gP
    · rw [e]; intro h0; have := h.lt; simp at h0; omega
  have hSv : S.ownBlock = none ∨ S.ownBlock ≠ v.ownBlock := by
    rcases hv with e | e | e
    · rw [e]; cases S.ownBlock <;> simp
    · rw [e]; exact h.sP
    · rw [e]
      by_cases h0 : S.ownBlock = some w.heap.size
      · have := (h.bnd _ (h.ownS _ h0)).2; omega
      · exact .inr h0
  have hb5 : w5.heap[g]? = some (.cells #[S, P, .bool s.full, .int .i64 (fuseR s), .bool s.down] 60 (0, 0)) := (hg.block g h.lt (fun e => h.gP e.symm)).trans h.blk
  have hg2 : w5.grownBy (w5.setCell ⟨g, 1, none⟩ v) (some g) := ⟨rfl, rfl, rfl, by simp [World.setCell], fun k _ hk => Below.heap_setCell _ _ _ _ (fun e => hk (by rw [e]))⟩
  have hsz : (w5.setCell ⟨g, 1, none⟩ v).heap.size = w5.heap.size := by simp [World.setCell]
  have hown : ∀ k, (own k ∨ v.ownBlock = some k) → own k ∨ w.heap.size ≤ k := by
    intro k hk
    rcases hk with hk | hk
    · exact .inl hk
    · rcases hv with e | e | e
      · rw [e] at hk; cases hk
      · rw [e] at hk; exact .inl (h.ownP k hk)
      · rw [e] at hk; cases hk; exact .inr (Nat.le_refl _)
  refine ⟨⟨⟨h.ok.secs, hl, h.ok.max⟩, ?_, ?_, ?_, .inl h.ownG, fun k hk => .inl (h.ownS k hk), fun k hk => .inr hk, ?_, h.gS, hvg, hSv⟩, ⟨hg.os, hg.tape, hg.output, by rw [hsz]; exact hg.size, ?_⟩, hown⟩
  · exact heap_setCell_same w5 g 1 _ _ v hb5
  · refine World.ownsRow.kept (World.ownsRow.kept h.rowS hg ?_) hg2 (.inr h.gS)
    exact h.sP
  · exact World.ownsRow.kept hrow hg2 (.inr hvg)
  · intro k hk
    rw [hsz]
    rcases hk with hk | hk
    · exact ⟨(h.bnd k hk).1, Nat.lt_of_lt_of_le (h.bnd k hk).2 hg.size⟩
    · exact hrow.lt k hk
  · intro k hk hn
    rw [Below.heap_setCell _ _ _ _ (fun e => hn (by rw [e]; exact h.ownG))]
    exact hg.block k hk (fun e => hn (h.ownP k e.symm))


/-- A pending write is read. -/
theorem Rdk.pendAt (h : Rdk w base own g s S P) {k : Nat} {p : Nat × List UInt8} (hk : s.pend[k]? = some p) :
    ∃ gP c, P = .slice (some ⟨gP, 0, none⟩) s.pend.length c ∧ own gP ∧ gP < w.heap.size ∧ w.rangeAt gP (k * 65) (.int .i64 (p.1 : Int) :: bvs p.2) := by
  have hlt : k < s.pend.length := by
    rcases Nat.lt_or_ge k s.pend.length with h' | h'
    · exact h'
    · rw [List.getElem?_eq_none h'] at hk; cases hk
  obtain ⟨gP, c, hP, hb, hl⟩ := h.rowP.form (by omega)
  refine ⟨gP, c, hP, h.ownP _ (by rw [hP]; rfl), hl, fun j v hv => ?_⟩
  have hrow := h.rowP
  rw [hP] at hrow
  have hl65 : ∀ x ∈ s.pend, (Value.int .i64 (x.1 : Int) :: bvs x.2).length = 65 := fun x hx => by rw [List.length_cons, bvs_length, (h.ok.pend x hx).2]
  have hj : j < 65 := by
    rcases Nat.lt_or_ge j 65 with h' | h'
    · exact h'
    · rw [List.getElem?_eq_none (by rw [hl65 p (List.mem_of_getElem? hk)]; exact h')] at hv; cases hv
  rw [hrow.cellAt (k * 65 + j) (by have : (k + 1) * 65 ≤ s.pend.length * 65 := Nat.mul_le_mul_right _ hlt; omega)]
  exact flat_get _ 65 s.pend k j p v hl65 hk hv
/-- A sector is read. -/
theorem Rdk.secAt (h : Rdk w base own g s S P) {k : Nat} {d : List UInt8} (hk : s.secs[k]? = some d) :
    ∃ gS c, S = .slice (some ⟨gS, 0, none⟩) s.secs.length c ∧ own gS ∧ gS < w.heap.size ∧ w.rangeAt gS (k * 64) (bvs d) ∧ w.there gS (k * 64) 64 := by
  have hlt : k < s.secs.length := by
    rcases Nat.lt_or_ge k s.secs.length with h' | h'
    · exact h'
    · rw [List.getElem?_eq_none h'] at hk; cases hk
  obtain ⟨gS, c, hS, hb, hl⟩ := h.rowS.form (by omega)
  have hrow := h.rowS
  rw [hS] at hrow
  have hl64 : ∀ x ∈ s.secs, (bvs x).length = 64 := fun x hx => by rw [bvs_length, h.ok.secs x hx]
  have hd := hl64 d (List.mem_of_getElem? hk)
  have hle : (k + 1) * 64 ≤ s.secs.length * 64 := Nat.mul_le_mul_right _ hlt
  have hr : w.rangeAt gS (k * 64) (bvs d) := fun j v hv => by
    have hj : j < 64 := by
      rcases Nat.lt_or_ge j 64 with h' | h'
      · exact h'
      · rw [List.getElem?_eq_none (by omega)] at hv; cases hv
    rw [hrow.cellAt (k * 64 + j) (by omega)]
    exact flat_get bvs 64 s.secs k j d v hl64 hk hv
  refine ⟨gS, c, hS, h.ownS _ (by rw [hS]; rfl), hl, hr, fun j hj => ⟨?_, hrow.frozenAt _⟩⟩
  rw [hr j _ (List.getElem?_eq_getElem (by omega))]
  rfl
/-- A sector is written. -/
theorem Rdk.secSet (h : Rdk w base own g s S P) {k gS c : Nat} {d : List UInt8} (hS : S = .slice (some ⟨gS, 0, none⟩) s.secs.length c) (hk : k < s.secs.length) (hd : d.length = 64) :
    Rdk (w.setCells gS (k * 64) (bvs d)) base own g { s with secs := s.secs.set k d } S P ∧ Turns own w (w.setCells gS (k * 64) (bvs d)) := by
  have hrow := h.rowS
  rw [hS] at hrow
  obtain ⟨h1, h2⟩ := stored_many (bvs d) (k * 64) w _ hrow
  have ho : own gS := h.ownS _ (by rw [hS]; rfl)
  have hsz := heap_size_setCells gS (bvs d) (k * 64) w
  have hSb : S.ownBlock = some gS := by rw [hS]; rfl
  have hgg : gS ≠ g := fun e => h.gS (by rw [hSb, e])
  have hl64 : ∀ x ∈ s.secs, (bvs x).length = 64 := fun x hx => by rw [bvs_length, h.ok.secs x hx]
  refine ⟨⟨⟨?_, ?_, ?_⟩, ?_, ?_, ?_, h.ownG, h.ownS, h.ownP, ?_, h.gS, h.gP, h.sP⟩, ⟨h2.os, h2.tape, h2.output, by rw [hsz]; exact Nat.le_refl _, fun k hk hn => h2.block k hk (fun e => hn (by cases e; exact ho))⟩⟩
  · intro l hl
    rcases List.mem_or_eq_of_mem_set hl with hl | rfl
    · exact h.ok.secs l hl
    · exact hd
  · intro p hp
    rw [List.length_set]
    exact h.ok.pend p hp
  · rw [List.length_set]; exact h.ok.max
  · exact (h2.block g h.lt (fun e => hgg (by cases e; rfl))).trans h.blk
  · rw [List.length_set, show cellsS (s.secs.set k d) = layL (cellsS s.secs) (k * 64) (bvs d) from (layL_flat bvs 64 s.secs k d hl64 (by rw [bvs_length]; exact hd) hk).symm, hS]
    exact h1
  · refine World.ownsRow.kept h.rowP h2 ?_
    rcases h.sP with e | e
    · rw [e] at hSb; cases hSb
    · exact .inr (fun e' => e (by rw [e', hSb]))
  · intro k hk
    rw [hsz]
    exact h.bnd k hk

theorem Rdk.secThere (h : Rdk w base own g s S P) {k gS c : Nat} (hS : S = .slice (some ⟨gS, 0, none⟩) s.secs.length c) (hk : k < s.secs.length) : w.there gS (k * 64) 64 := by
  obtain ⟨gS', c', hS', _, _, _, ht⟩ := h.secAt (List.getElem?_eq_getElem hk)
  rw [hS] at hS'
  injection hS' with e
  injection e with e
  injection e with e
  rw [e]
  exact ht
theorem Rdk.pendMax (h : Rdk w base own g s S P) : (s.pend.length : Int) ≤ 9223372036854775807 := by
  rcases h.rowP.2 with ⟨_, h0⟩ | ⟨_, cap, _, _, _, _, h1, h2, _⟩
  · rw [h0]; decide
  · have : s.pend.length ≤ maxLen := Nat.le_trans h1 h2
    simp only [maxLen] at this
    omega

/-- A part of a sector is written. -/
theorem Rdk.secPart (h : Rdk w base own g s S P) {k o gS c : Nat} {old e : List UInt8} (hS : S = .slice (some ⟨gS, 0, none⟩) s.secs.length c) (hk : s.secs[k]? = some old) (ho : o + e.length ≤ 64) :
    Rdk (w.setCells gS (k * 64 + o) (bvs e)) base own g { s with secs := s.secs.set k (old.take o ++ (e ++ old.drop (o + e.length))) } S P ∧ Turns own w (w.setCells gS (k * 64 + o) (bvs e)) := by
  have hlt : k < s.secs.length := by
    rcases Nat.lt_or_ge k s.secs.length with h' | h'
    · exact h'
    · rw [List.getElem?_eq_none h'] at hk; cases hk
  have hol : old.length = 64 := h.ok.secs old (List.mem_of_getElem? hk)
  have hrow := h.rowS
  rw [hS] at hrow
  obtain ⟨h1, h2⟩ := stored_many (bvs e) (k * 64 + o) w _ hrow
  have hg : own gS := h.ownS _ (by rw [hS]; rfl)
  have hsz := heap_size_setCells gS (bvs e) (k * 64 + o) w
  have hSb : S.ownBlock = some gS := by rw [hS]; rfl
  have hgg : gS ≠ g := fun e => h.gS (by rw [hSb, e])
  have hnew : (old.take o ++ (e ++ old.drop (o + e.length))).length = 64 := by simp [hol]; omega
  refine ⟨⟨⟨?_, ?_, ?_⟩, ?_, ?_, ?_, h.ownG, h.ownS, h.ownP, ?_, h.gS, h.gP, h.sP⟩, ⟨h2.os, h2.tape, h2.output, by rw [hsz]; exact Nat.le_refl _, fun k hk hn => h2.block k hk (fun e => hn (by cases e; exact hg))⟩⟩
  · intro l hl
    rcases List.mem_or_eq_of_mem_set hl with hl | rfl
    · exact h.ok.secs l hl
    · exact hnew
  · intro p hp
    rw [List.length_set]
    exact h.ok.pend p hp
  · rw [List.length_set]; exact h.ok.max
  · exact (h2.block g h.lt (fun e => hgg (by cases e; rfl))).trans h.blk
  · have hpl : (cellsS (s.secs.take k)).length = k * 64 := by
      rw [cellsS_length _ (fun x hx => h.ok.secs x (List.mem_of_mem_take hx)), List.length_take]
      congr 1; omega
    have h3 : (s.secs.set k (old.take o ++ (e ++ old.drop (o + e.length)))).take k = s.secs.take k := by rw [List.take_set_of_le (Nat.le_refl k)]
    have h4 : (s.secs.set k (old.take o ++ (e ++ old.drop (o + e.length)))).drop (k + 1) = s.secs.drop (k + 1) := by rw [List.drop_set_of_lt (by omega)]
    have hlay : layL (cellsS s.secs) (k * 64 + o) (bvs e) = cellsS (s.secs.set k (old.take o ++ (e ++ old.drop (o + e.length)))) := by
      rw [cellsS_split s.secs k old hk, ← hpl, layL_part _ _ _ _ _ (by rw [bvs_length, bvs_length, hol]; exact ho), cellsS_split (s.secs.set k _) k _ (List.getElem?_set_self hlt), h3, h4]
      congr 1
      simp [bvs]
    rw [List.length_set, ← hlay, hS]
    exact h1
  · refine World.ownsRow.kept h.rowP h2 ?_
    rcases h.sP with e | e
    · rw [e] at hSb; cases hSb
    · exact .inr (fun e' => e (by rw [e', hSb]))
  · intro k hk
    rw [hsz]
    exact h.bnd k hk
end Go.Proofs.Ytdggibigfocadaa
