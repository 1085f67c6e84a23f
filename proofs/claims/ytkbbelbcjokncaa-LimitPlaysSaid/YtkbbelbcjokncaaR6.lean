/- The walk of the reference's leave. No conditions. -/
import Derived.Test.YtkbbelbcjokncaaR5
import Derived.Test.YtkbbelbcjokncaaReg5
namespace Go.Proofs.Ytkbbelbcjokncaa
open Go.RowKit
variable {w w' : World} {base g : Nat} {own : Nat → Prop} {t : RT} {V : Value}
theorem Rtb.below (h : Rtb w base own g t V) (hb : Below w.heap.size w w') : Rtb w' base own g t V :=
  ⟨(hb.block g (h.bnd _ h.ownG).2).trans h.blk, World.ownsRow.kept h.row ⟨hb.os, hb.tape, hb.output, hb.size, fun k hk _ => hb.block k hk⟩ (row := none) (by cases V.ownBlock <;> simp), h.ownG, h.ownV, fun k hk => ⟨(h.bnd k hk).1, Nat.lt_of_lt_of_le (h.bnd k hk).2 hb.size⟩, h.gV⟩
theorem Rtb.cells {gV n c : Nat} (h : Rtb w base own g t (.slice (some ⟨gV, 0, none⟩) n c)) {k : Nat} {b : Bk} (hk : t.bs[k]? = some b) :
    w.cell? ⟨gV, k * 3, none⟩ = some (.string b.1) ∧ w.cell? ⟨gV, k * 3 + 1, none⟩ = some (.int .i64 b.2.1) ∧ w.cell? ⟨gV, k * 3 + 2, none⟩ = some (.int .i64 b.2.2) := by
  obtain ⟨gV', c', hV, _, _, h1, h2, h3⟩ := h.at_ hk
  cases hV
  exact ⟨h1, h2, h3⟩
theorem Rtb.unfrozen (h : Rtb w base own g t V) (i : Nat) : w.frozen? ⟨g, i, none⟩ = false := by simp [World.frozen?, h.blk]
theorem cellsK_cons (b : Bk) (l : List Bk) : cellsK (b :: l) = [.string b.1, .int .i64 b.2.1, .int .i64 b.2.2] ++ cellsK l := rfl
theorem cellsK_app (l m : List Bk) : cellsK (l ++ m) = cellsK l ++ cellsK m := List.flatMap_append
theorem cellsK_len : ∀ l : List Bk, (cellsK l).length = l.length * 3
  | [] => rfl
  | b :: l => by rw [cellsK_cons, List.length_append, cellsK_len l]; simp; omega
theorem cellsK_take : ∀ (l : List Bk) (n : Nat), cellsK (l.take n) = (cellsK l).take (n * 3)
  | [], n => by simp [cellsK]
  | b :: l, 0 => by simp [cellsK]
  | b :: l, n + 1 => by
    rw [List.take_succ_cons, cellsK_cons, cellsK_cons, cellsK_take l n, show (n + 1) * 3 = [Value.string b.1, .int .i64 b.2.1, .int .i64 b.2.2].length + n * 3 from by simp; omega, List.take_length_add_append]
theorem cellsK_drop : ∀ (l : List Bk) (n : Nat), cellsK (l.drop n) = (cellsK l).drop (n * 3)
  | [], n => by simp [cellsK]
  | b :: l, 0 => by simp
  | b :: l, n + 1 => by
    rw [List.drop_succ_cons, cellsK_cons, cellsK_drop l n, show (n + 1) * 3 = [Value.string b.1, .int .i64 b.2.1, .int .i64 b.2.2].length + n * 3 from by simp; omega, List.drop_length_add_append]
theorem cellsK_one : ∀ (l : List Bk), ∀ u ∈ cellsK l, u.oneCell' = true
  | [], u, h => by simp [cellsK] at h
  | b :: l, u, h => by
    rw [cellsK_cons, List.mem_append] at h
    rcases h with h | h
    · simp only [List.mem_cons, List.not_mem_nil, or_false] at h
      rcases h with rfl | rfl | rfl <;> rfl
    · exact cellsK_one l u h
theorem row_cut {e : TypeId} {size g n m c : Nat} {xs : List Value} (h : w.ownsRow base e size (.slice (some ⟨g, 0, none⟩) n c) n xs) (hm : m ≤ n) : w.ownsRow base e size (.slice (some ⟨g, 0, none⟩) m c) m (xs.take (m * size)) := by
  obtain ⟨hl, ⟨hv, _⟩ | ⟨g', cap, cur, hv, hb, hc, h1, h2, h3, h4⟩⟩ := h
  · cases hv
  · cases hv
    have hle : m * size ≤ n * size := Nat.mul_le_mul_right _ hm
    exact ⟨by rw [List.length_take, hl]; omega, .inr ⟨g, c, cur, rfl, hb, hc, by omega, h2, h3, by rw [← h4, List.take_take, Nat.min_eq_left hle]⟩⟩
theorem row_cap {e : TypeId} {size g n c : Nat} {xs : List Value} (h : w.ownsRow base e size (.slice (some ⟨g, 0, none⟩) n c) n xs) : n ≤ c ∧ c ≤ maxLen := by
  obtain ⟨hl, ⟨hv, _⟩ | ⟨g', cap, cur, hv, hb, hc, h1, h2, h3, h4⟩⟩ := h
  · cases hv
  · cases hv
    exact ⟨h1, h2⟩
def AfterR (base g : Nat) (own : Nat → Prop) (t : RT) (w w' : World) : Prop := ∃ own' V', Rtb w' base own' g t V' ∧ Turns own w w' ∧ ∀ k, own' k → own k ∨ w.heap.size ≤ k
/-- The buckets have a new slice, which is stored. -/
theorem Rtb.repend {w5 : World} (h : Rtb w base own g t V) {v : Value} {l : List Bk} (hg : w.grownBy w5 V.ownBlock) (hrow : w5.ownsRow base 56 3 v l.length (cellsK l))
    (hv : v.ownBlock = none ∨ v.ownBlock = V.ownBlock ∨ v.ownBlock = some w.heap.size) :
    Rtb (w5.setCell ⟨g, 2, none⟩ v) base (fun k => own k ∨ v.ownBlock = some k) g { t with bs := l } v ∧ Turns own w (w5.setCell ⟨g, 2, none⟩ v) ∧ ∀ k, (own k ∨ v.ownBlock = some k) → own k ∨ w.heap.size ≤ k := by
  have hlt := (h.bnd g h.ownG).2
  have hvg : v.ownBlock ≠ some g := by
    rcases hv with e | e | e
    · rw [e]; simp
    · rw [e]; exact h.gV
    · rw [e]; intro h0; simp at h0; omega
  have hb5 : w5.heap[g]? = some (.cells #[.int .i64 t.most, .int .i64 t.each, V] 53 (0, 0)) := (hg.block g hlt (fun e => h.gV e.symm)).trans h.blk
  have hg2 : w5.grownBy (w5.setCell ⟨g, 2, none⟩ v) (some g) := ⟨rfl, rfl, rfl, by simp [World.setCell], fun k _ hk => Below.heap_setCell _ _ _ _ (fun e => hk (by rw [e]))⟩
  have hsz : (w5.setCell ⟨g, 2, none⟩ v).heap.size = w5.heap.size := by simp [World.setCell]
  refine ⟨⟨?_, ?_, .inl h.ownG, fun k hk => .inr hk, ?_, hvg⟩, ⟨hg.os, hg.tape, hg.output, by rw [hsz]; exact hg.size, ?_⟩, ?_⟩
  · exact heap_setCell_same w5 g 2 _ _ v hb5
  · exact World.ownsRow.kept hrow hg2 (.inr hvg)
  · intro k hk
    rw [hsz]
    rcases hk with hk | hk
    · exact ⟨(h.bnd k hk).1, Nat.lt_of_lt_of_le (h.bnd k hk).2 hg.size⟩
    · exact hrow.lt k hk
  · intro k hk hn
    rw [Below.heap_setCell _ _ _ _ (fun e => hn (by rw [e]; exact h.ownG))]
    exact hg.block k hk (fun e => hn (h.ownV k e.symm))
  · intro k hk
    rcases hk with hk | hk
    · exact .inl hk
    · rcases hv with e | e | e
      · rw [e] at hk; cases hk
      · rw [e] at hk; exact .inl (h.ownV k hk)
      · rw [e] at hk; cases hk; exact .inr (Nat.le_refl _)
/-- x[l:] of a slice of buckets. -/
theorem wpList_bucketsFrom {ops : Array Oper} {rest : List Oper} {o : Oper} {a : Act} {Q : Exit → Act → World → Prop} (hgd : o.guard = none) (s l : Operand) (ho : o.op = .slice 51 s (some l) none none)
    (X : Option Addr) (len cap k : Nat) (hs : a.eval s = .slice X len cap) (hl : a.eval l = .int .i64 (k : Int)) (hk : k ≤ len)
    (h : wpList Try.prog ops Q rest (a.put o.dst (.slice (if cap = k then X else X.map (·.add (k * 3))) (len - k) (cap - k))) w) : wpList Try.prog ops Q (o :: rest) a w := by
  refine wpList_plain hgd fun _ hK => ?_
  have h1 := run_slice_l (P := Try.prog) (w := w) 51 X len cap (by kernel_rfl) .i64 (k : Int) (by omega) (by omega)
  have h2 : (sizeOf (Try.prog.elem 51)).run Try.prog w = .ok 3 w := by kernel_rfl
  rw [h2] at h1
  simp only [Result.andThen_ok, sliced, Int.toNat_natCast] at h1
  unfold Oper.wp execOp
  simp only [ho, Sem.run_bind, hs, hl, Option.map_some, Option.map_none]
  rw [run_sliceAt_slice (P := Try.prog) (w := w) 51 (.slice X len cap) (some (.int .i64 (k : Int))) none none (by kernel_rfl), h1]
  exact hK _ _ h
theorem bkinfo : (Try.prog.info? 56).map (fun i => (i.zero, i.size, i.bytes)) = some (some (.agg #[.string ⟨#[]⟩, .int .i64 0, .int .i64 0]), 3, 32) := by kernel_rfl
theorem info3 {i : TypeId} {a : Value} {b c : Nat} (h : (Try.prog.info? i).map (fun i => (i.zero, i.size, i.bytes)) = some (some a, b, c)) : ∃ i0, Try.prog.info? i = some i0 ∧ i0.zero = some a ∧ i0.size = b ∧ i0.bytes = c := by
  cases hi : Try.prog.info? i with
  | none => rw [hi] at h; cases h
  | some i0 => rw [hi] at h; simp only [Option.map_some, Option.some.injEq, Prod.mk.injEq] at h; exact ⟨i0, rfl, h.1, h.2.1, h.2.2⟩
theorem appK {ops : Array Oper} {rest : List Oper} {o : Oper} {a : Act} {w : World} {Q : Exit → Act → World → Prop} {s x : Operand} {base B c m : Nat} {v : Value} {l l2 : List Bk} {A : Option Addr}
    (hgd : o.guard = none) (ho : o.op = .call { callee := .builtin .append, args := #[s, x], argTypes := #[51, 51] })
    (hs : a.eval s = v) (hx : a.eval x = .slice A m c) (hown : w.ownsRow base 56 3 v l.length (cellsK l)) (hr : Reads w B 3 A m (cellsK l2)) (hm : m = l2.length) (hsmall : l.length + m ≤ 100) (hbase : base ≤ w.heap.size)
    (h : ∀ v' w', w'.ownsRow base 56 3 v' (l ++ l2).length (cellsK (l ++ l2)) → w.grownBy w' v.ownBlock → (v'.ownBlock = v.ownBlock ∨ v'.ownBlock = some w.heap.size) → wpList Try.prog ops Q rest (a.put o.dst v') w') : wpList Try.prog ops Q (o :: rest) a w := by
  obtain ⟨i0, hi0, hz0, hz1, hz2⟩ := info3 bkinfo
  refine wpList_append_any w hgd s x _ ho base 56 i0 _ 3 32 Try.underlying51 hi0 hz0 hz1 hz2 (by rfl) (by omega) v l.length (cellsK l) hs hown B A m c (cellsK l2) hx hr (cellsK_one _) (by simp only [maxLen]; omega) (by omega) hbase ?_
  intro v' w' h1 h2 h3
  refine h v' w' ?_ h2 h3
  rw [List.length_append, cellsK_app, ← hm]
  exact h1
theorem Turns.of_below {w w' : World} (h : Below w.heap.size w w') : Turns own w w' := ⟨h.os, h.tape, h.output, h.size, fun k hk _ => h.block k hk⟩
end Go.Proofs.Ytkbbelbcjokncaa
