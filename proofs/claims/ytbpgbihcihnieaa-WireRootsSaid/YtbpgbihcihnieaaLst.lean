/- A list of byte slices that the call owns: its row, and each member's own row, all apart. No conditions. -/
import Derived.Test.YtbpgbihcihnieaaU8
namespace Go.Proofs.Ytbpgbihcihnieaa
open Go.RowKit
theorem slinfo : (Try.prog.info? 24).map (fun i => (i.zero, i.size, i.bytes)) = some (some (.slice none 0 0), 1, 24) := by kernel_rfl

theorem own8_form {w : World} {base : Nat} {v : Value} {l : List UInt8} (h : Own8 w base v l) : ∃ A c, v = .slice A l.length c ∧ l.length ≤ c ∧ Reads w w.heap.size 1 A l.length (bvs l) := by
  have h0 := h
  obtain ⟨hl, h | ⟨g, cap, cur, rfl, hb, hh, hle, _⟩⟩ := h
  · obtain ⟨rfl, hn⟩ := h
    have : l = [] := List.eq_nil_of_length_eq_zero hn
    subst this
    exact ⟨none, 0, rfl, by simp, Reads.none_⟩
  · exact ⟨_, cap, rfl, hle, Reads.of_own h0⟩
theorem own8_form' {w : World} {base n : Nat} {v : Value} {l : List UInt8} (h : Own8 w base v l) (hl : l.length = n) : ∃ A c, v = .slice A n c ∧ n ≤ c ∧ Reads w w.heap.size 1 A n (bvs l) := by
  subst hl; exact own8_form h
theorem Reads.via {w wr w5 : World} {B size n : Nat} {A : Option Addr} {xs : List Value} (h : Reads wr B size A n xs) (h1 : Below B w wr) (h2 : Below B w w5) : Reads w5 B size A n xs := h.keep fun _ hp => (h2.cell hp).trans (h1.cell hp).symm
theorem own8_keep {w w' : World} {base : Nat} {v : Value} {l : List UInt8} {row : Option Nat} (h : Own8 w base v l) (hg : w.grownBy w' row) (hne : v.ownBlock = none ∨ v.ownBlock ≠ row) : Own8 w' base v l := World.ownsRow.kept h hg hne
theorem own8_lt {w : World} {base : Nat} {v : Value} {l : List UInt8} (h : Own8 w base v l) : ∀ k, v.ownBlock = some k → base ≤ k ∧ k < w.heap.size := World.ownsRow.lt h
theorem own8_base {w : World} {base base' : Nat} {v : Value} {l : List UInt8} (h : Own8 w base v l) (hb : base' ≤ base) : Own8 w base' v l := by
  obtain ⟨hl, h | ⟨g, cap, cur, h1, h2, h3⟩⟩ := h
  · exact ⟨hl, .inl h⟩
  · exact ⟨hl, .inr ⟨g, cap, cur, h1, by omega, h3⟩⟩

/-- What 'Below' says of all that was there, as 'grownBy'. -/
theorem grown_of_below {w w' : World} (h : Below w.heap.size w w') (row : Option Nat) : w.grownBy w' row := ⟨h.os, h.tape, h.output, h.size, fun k hk _ => h.block k hk⟩
theorem own8_below {w w' : World} {base : Nat} {v : Value} {l : List UInt8} (h : Own8 w base v l) (hb : Below w.heap.size w w') : Own8 w' base v l := own8_keep h (grown_of_below hb none) (by cases v.ownBlock <;> simp)

/-- v is a [][]byte of the call's own; member i is a []byte of the call's own, that reads ls[i]; all rows are apart. -/
structure OwnLL (w : World) (base : Nat) (v : Value) (ls : List (List UInt8)) (vs : List Value) : Prop where
  row : w.ownsRow base 24 1 v ls.length vs
  each : ∀ (i : Nat) (h : i < ls.length), ∃ u, vs[i]? = some u ∧ Own8 w base u ls[i] ∧ (u.ownBlock = none ∨ u.ownBlock ≠ v.ownBlock)
  apart : ∀ (i j : Nat) (u u' : Value), i < j → vs[i]? = some u → vs[j]? = some u' → u.ownBlock = none ∨ u.ownBlock ≠ u'.ownBlock
def OwnL (w : World) (base : Nat) (v : Value) (ls : List (List UInt8)) : Prop := ∃ vs, OwnLL w base v ls vs

theorem OwnL.nil (w : World) (base : Nat) : OwnL w base (.slice none 0 0) [] :=
  ⟨[], World.ownsRow_nil w base _ 1, fun i h => by simp at h, fun i j u u' _ h => by simp at h⟩
theorem OwnL.lists {w : World} {base : Nat} {v : Value} {ls : List (List UInt8)} (h : OwnL w base v ls) : ∃ A c, v = .slice A ls.length c ∧ ls.length ≤ c ∧ Lists w w.heap.size A ls := by
  obtain ⟨vs, h⟩ := h
  have hr := h.row
  obtain ⟨hl, h0 | ⟨g, cap, cur, rfl, hb, hh, hle, _⟩⟩ := h.row
  · obtain ⟨rfl, hn⟩ := h0
    have : ls = [] := List.eq_nil_of_length_eq_zero hn
    subst this
    exact ⟨none, 0, rfl, by simp, [], Reads.none_, fun i hi => by simp at hi⟩
  · refine ⟨_, cap, rfl, hle, vs, Reads.of_own hr, fun i hi => ?_⟩
    obtain ⟨u, hu, ho, _⟩ := h.each i hi
    obtain ⟨A, c, rfl, hc, hr⟩ := own8_form ho
    exact ⟨A, c, hu, hc, hr⟩
theorem OwnL.below {w w' : World} {base : Nat} {v : Value} {ls : List (List UInt8)} (h : OwnL w base v ls) (hb : Below w.heap.size w w') : OwnL w' base v ls := by
  obtain ⟨vs, h⟩ := h
  refine ⟨vs, World.ownsRow.kept h.row (grown_of_below hb none) (by cases v.ownBlock <;> simp), fun i hi => ?_, h.apart⟩
  obtain ⟨u, hu, ho, hne⟩ := h.each i hi
  exact ⟨u, hu, own8_below ho hb, hne⟩
theorem OwnL.base_ {w : World} {base base' : Nat} {v : Value} {ls : List (List UInt8)} (h : OwnL w base v ls) (hb : base' ≤ base) : OwnL w base' v ls := by
  obtain ⟨vs, h⟩ := h
  refine ⟨vs, ?_, fun i hi => ?_, h.apart⟩
  · obtain ⟨hl, h | ⟨g, cap, cur, h1, h2, h3⟩⟩ := h.row
    · exact ⟨hl, .inl h⟩
    · exact ⟨hl, .inr ⟨g, cap, cur, h1, by omega, h3⟩⟩
  · obtain ⟨u, hu, ho, hne⟩ := h.each i hi
    exact ⟨u, hu, own8_base ho hb, hne⟩
theorem oneCell_own8 {w : World} {base : Nat} {v : Value} {l : List UInt8} (h : Own8 w base v l) : v.oneCell' = true := by
  obtain ⟨A, c, rfl, _⟩ := own8_form h
  rfl
theorem below_ownL {a w w' : World} {v : Value} {ls : List (List UInt8)} (h : Below a.heap.size a w) (ho : OwnL w a.heap.size v ls) (hg : w.grownBy w' v.ownBlock) : Below a.heap.size a w' := by
  obtain ⟨vs, ho⟩ := ho
  exact h.grown hg h.size (fun k hk => (World.ownsRow.lt ho.row k hk).1)

/-- 'list = append(list, x)': x lies in a new block of one cell; x was made since wr. -/
theorem appL {ops : Array Oper} {rest : List Oper} {o : Oper} {a : Act} {w wr : World} {Q : Exit → Act → World → Prop} {s x : Operand} {base g c : Nat} {v u : Value} {ls : List (List UInt8)} {l : List UInt8}
    (hgd : o.guard = none) (ho : o.op = .call { callee := .builtin .append, args := #[s, x], argTypes := #[22, 22] })
    (hs : a.eval s = v) (hx : a.eval x = .slice (some ⟨g, 0, none⟩) 1 c) (hown : OwnL wr base v ls) (hcell : w.cell? ⟨g, 0, none⟩ = some u) (hb : Below wr.heap.size wr w) (hu : Own8 w wr.heap.size u l)
    (hbytes : (ls.length + 1) * 24 ≤ 140737488355328) (hbase : base ≤ wr.heap.size)
    (h : ∀ v' w', OwnL w' base v' (ls ++ [l]) → w.grownBy w' v.ownBlock → wpList Try.prog ops Q rest (a.put o.dst v') w') : wpList Try.prog ops Q (o :: rest) a w := by
  obtain ⟨i0, hi0, hz0, hz1, hz2⟩ := info_parts slinfo
  obtain ⟨vs, hL⟩ := hown.below hb
  obtain ⟨vs0, hL0⟩ := hown
  refine wpList_append_any w hgd s x _ ho base 24 i0 _ 1 24 Try.underlying22 hi0 hz0 hz1 hz2 rfl (by omega) v ls.length vs hs hL.row (g + 1) (some ⟨g, 0, none⟩) 1 c [u] hx ?_ ?_ (by simp only [maxLen]; omega) (by omega) (Nat.le_trans hbase hb.size) ?_
  · refine ⟨rfl, fun _ => ⟨_, rfl, by simp, fun j y hy => ?_⟩⟩
    match j, hy with
    | 0, hy => simp at hy; subst hy; exact hcell
  · intro y hy
    simp at hy
    subst hy
    exact oneCell_own8 hu
  · intro v' w' h1 h2 h3
    refine h v' w' ⟨vs ++ [u], ?_, ?_, ?_⟩ h2
    · simpa using h1
    · have hvl : vs.length = ls.length := by have := hL.row.1; omega
      -- the new row's block is the old one, or new
      have hblk : ∀ k, v'.ownBlock = some k → (v.ownBlock = some k ∨ k = w.heap.size) := by
        intro k hk
        rcases h3 with h3 | h3
        · exact .inl (h3 ▸ hk)
        · rw [h3] at hk; injection hk with hk; exact .inr hk.symm
      have hvb : ∀ k, v.ownBlock = some k → k < wr.heap.size := fun k hk => (World.ownsRow.lt hL0.row k hk).2
      intro i hi
      by_cases hil : i < ls.length
      · obtain ⟨y, hy, hoy, hne⟩ := hL.each i hil
        refine ⟨y, by rw [List.getElem?_append_left (by omega)]; exact hy, ?_, ?_⟩
        · rw [List.getElem_append_left hil]
          exact own8_keep hoy h2 hne
        · cases hyb : y.ownBlock with
          | none => exact .inl rfl
          | some k =>
            refine .inr fun e => ?_
            rcases hblk k e.symm with h4 | h4
            · rw [hyb, h4] at hne; simp at hne
            · have := (own8_lt hoy k hyb).2; omega
      · have hie : i = ls.length := by simp at hi; omega
        subst hie
        refine ⟨u, by rw [← hvl]; simp, ?_, ?_⟩
        · simp only [List.getElem_append_right (Nat.le_refl _), Nat.sub_self, List.getElem_cons_zero]
          refine own8_base (own8_keep hu h2 ?_) hbase
          cases hub : u.ownBlock with
          | none => exact .inl rfl
          | some k =>
            refine .inr fun e => ?_
            have h5 := (own8_lt hu k hub).1
            have h6 := hvb k e.symm
            omega
        · cases hub : u.ownBlock with
          | none => exact .inl rfl
          | some k =>
            refine .inr fun e => ?_
            have h5 := own8_lt hu k hub
            rcases hblk k e.symm with h4 | h4
            · have := hvb k h4; omega
            · omega
    · have hvl : vs.length = ls.length := by have := hL.row.1; omega
      intro i j y y' hij hy hy'
      by_cases hj : j < vs.length
      · rw [List.getElem?_append_left (by omega)] at hy
        rw [List.getElem?_append_left hj] at hy'
        exact hL.apart i j y y' hij hy hy'
      · have hj' : j = vs.length := by
          have := (List.getElem?_eq_some_iff.1 hy').1
          simp at this; omega
        subst hj'
        rw [List.getElem?_append_left (by omega)] at hy
        have hy'' : y' = u := by simpa using hy'.symm
        subst hy''
        -- y is old: it was there at wr
        have hw0 : vs0[i]? = vs[i]? := by
          have h1 := hL0.row
          obtain ⟨q1, hq1 | ⟨g1, c1, cu1, e1, _, e2, _, _, _, e3⟩⟩ := hL0.row
          · have : i < ls.length := by omega
            omega
          · obtain ⟨q2, hq2 | ⟨g2, c2, cu2, f1, _, f2, _, _, _, f3⟩⟩ := hL.row
            · have : i < ls.length := by omega
              omega
            · rw [e1] at f1
              cases f1
              have hlt : g1 < wr.heap.size := (Array.getElem?_eq_some_iff.1 e2).1
              rw [hb.block g1 hlt, e2] at f2
              cases f2
              rw [← e3, ← f3]
        obtain ⟨y0, hy0, hoy, _⟩ := hL0.each i (by omega)
        rw [hw0, hy] at hy0
        cases hy0
        cases hyb : y.ownBlock with
        | none => exact .inl rfl
        | some k =>
          refine .inr fun e => ?_
          have h5 := (own8_lt hoy k hyb).2
          have h6 := (own8_lt hu k e.symm).1
          omega

theorem own8_zero (w : World) (base : Nat) (hb : base ≤ w.heap.size) : Own8 (w.alloc (.cells #[] 5)) base (.slice (some ⟨w.heap.size, 0, none⟩) 0 0) [] :=
  ⟨rfl, .inr ⟨w.heap.size, 0, #[], rfl, hb, heap_alloc_new w _, Nat.le_refl _, by simp [maxLen], rfl, rfl⟩⟩
theorem OwnL.len {w : World} {base n c : Nat} {A : Option Addr} {ls : List (List UInt8)} (h : OwnL w base (.slice A n c) ls) : n = ls.length := by
  obtain ⟨A', c', h1, _⟩ := h.lists
  cases h1; rfl
theorem OwnL.reads {w : World} {base n c : Nat} {A : Option Addr} {ls : List (List UInt8)} (h : OwnL w base (.slice A n c) ls) : Lists w w.heap.size A ls := by
  obtain ⟨A', c', h1, _, h2⟩ := h.lists
  cases h1
  exact h2
/-- A slice of bytes made a string. -/
theorem run_str8 {w : World} {B n : Nat} {A : Option Addr} {l : List UInt8} (hr : Reads w B 1 A n (bvs l)) (c : Nat) : (convert 24 9 (.slice A n c)).run Try.prog w = .ok (.string ⟨l.toArray⟩) w := by
  have hm : n = l.length := by have := hr.1; rw [bvs_length] at this; omega
  subst hm
  cases A with
  | none =>
    have hn : l = [] := by
      cases l with
      | nil => rfl
      | cons a l => obtain ⟨_, h, _⟩ := hr.2 (by simp); cases h
    subst hn
    rw [run_convert_bytes_nil w 24 5 Try.underlying24 Try.underlying5 _ _ _ Try.underlying9]
    rfl
  | some ad =>
    refine run_convert_bytes_back (P := Try.prog) w 24 9 5 ad c l Try.underlying24 Try.underlying5 Try.underlying9 fun j hj => ?_
    obtain ⟨ad', h, _, hc⟩ := hr.2 (by omega)
    cases h
    exact hc j _ (by simp [bvs, bv, List.getElem?_eq_getElem hj])
end Go.Proofs.Ytbpgbihcihnieaa
