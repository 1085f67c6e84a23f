/- Which bucket goes, in plain words. No conditions. -/
import Derived.Test.YtkbbelbcjokncaaT5
namespace Go.Proofs.Ytkbbelbcjokncaa
open Go.RowKit
theorem less_irrefl : ∀ l : List UInt8, Op.bytesLess l l = false
  | [] => rfl
  | a :: l => by simp [Op.bytesLess, less_irrefl l]
theorem less_trans : ∀ a b c : List UInt8, Op.bytesLess a b = true → Op.bytesLess b c = true → Op.bytesLess a c = true
  | _, [], _, h, _ => by simp [Op.bytesLess] at h
  | _, _ :: _, [], _, h => by simp [Op.bytesLess] at h
  | [], _ :: _, _ :: _, _, _ => rfl
  | x :: a, y :: b, z :: c, h1, h2 => by
    simp only [Op.bytesLess, Bool.or_eq_true, Bool.and_eq_true, decide_eq_true_eq, beq_iff_eq] at h1 h2 ⊢
    rcases h1 with h1 | ⟨rfl, h1⟩
    · rcases h2 with h2 | ⟨rfl, h2⟩
      · exact .inl (UInt8.lt_trans h1 h2)
      · exact .inl h1
    · rcases h2 with h2 | ⟨rfl, h2⟩
      · exact .inl h2
      · exact .inr ⟨rfl, less_trans a b c h1 h2⟩
def older (l : Int) (k : List UInt8) (l' : Int) (k' : List UInt8) : Prop := l < l' ∨ (l = l' ∧ Op.bytesLess k k' = true)
theorem older_irrefl (l : Int) (k : List UInt8) : ¬ older l k l k := fun h => by
  rcases h with h | ⟨_, h⟩
  · omega
  · rw [less_irrefl] at h; cases h
theorem older_trans {l l' l'' : Int} {k k' k'' : List UInt8} (h : older l k l' k') (h' : older l' k' l'' k'') : older l k l'' k'' := by
  rcases h with h | ⟨rfl, h⟩
  · rcases h' with h' | ⟨rfl, _⟩
    · exact .inl (by omega)
    · exact .inl h
  · rcases h' with h' | ⟨rfl, h'⟩
    · exact .inl h'
    · exact .inr ⟨rfl, less_trans _ _ _ h h'⟩
/-- The best of those that have come so far; none has. -/
def Cand (t : LT) (left : Lit → Bool) (o : List UInt8) : Prop :=
  (t.bk o = none ∧ ∀ k, t.bk k ≠ none → left (.string k) = true) ∨ (∃ po, t.bk o = some po ∧ ∀ k p, t.bk k = some p → left (.string k) = false → ¬ older p.2 k po.2 o)
theorem left_key {left : Lit → Bool} {k x : List UInt8} (h : (left (.string k) && !(Lit.string k).sameKey (.string x)) = false) : left (.string k) = false ∨ k = x := by
  cases hl : left (.string k) with
  | false => exact .inl rfl
  | true =>
    rw [hl] at h
    simp only [Bool.true_and, Bool.not_eq_false'] at h
    exact .inr (Lit.string.inj (WideAt.sameKey_eq h))
theorem Cand.take {t : LT} {left : Lit → Bool} {o x : List UInt8} {p : Int × Int} (h : Cand t left o) (hx : t.bk x = some p) (hb : t.bk o = none ∨ ∃ po, t.bk o = some po ∧ older p.2 x po.2 o) : Cand t (fun z => left z && !z.sameKey (.string x)) x := by
  refine .inr ⟨p, hx, fun k q hk hl ho => ?_⟩
  rcases left_key hl with hl | rfl
  · rcases h with ⟨_, h⟩ | ⟨po, hpo, h⟩
    · have := h k (by rw [hk]; simp)
      rw [this] at hl; cases hl
    · rcases hb with hb | ⟨po', hpo', hb⟩
      · rw [hpo] at hb; cases hb
      · rw [hpo] at hpo'
        cases hpo'
        exact h k q hk hl (older_trans ho hb)
  · rw [hx] at hk
    cases hk
    exact older_irrefl _ _ ho
theorem Cand.keep {t : LT} {left : Lit → Bool} {o x : List UInt8} {p po : Int × Int} (h : Cand t left o) (hx : t.bk x = some p) (ho : t.bk o = some po) (hb : ¬ older p.2 x po.2 o) : Cand t (fun z => left z && !z.sameKey (.string x)) o := by
  refine .inr ⟨po, ho, fun k q hk hl h' => ?_⟩
  rcases left_key hl with hl | rfl
  · rcases h with ⟨h0, _⟩ | ⟨po', hpo, h⟩
    · rw [ho] at h0; cases h0
    · rw [ho] at hpo
      cases hpo
      exact h k q hk hl h'
  · rw [hx] at hk
    cases hk
    exact hb h'
theorem Cand.start (t : LT) (left : Lit → Bool) (hl : ∀ k, t.bk k ≠ none → left (.string k) = true) (o : List UInt8) : Cand t left o := by
  cases ho : t.bk o with
  | none => exact .inl ⟨ho, hl⟩
  | some po => exact .inr ⟨po, ho, fun k p hk h => by rw [hl k (by rw [hk]; simp)] at h; cases h⟩
/-- The bucket at k goes. -/
def LT.cut (t : LT) (k : List UInt8) : LT := { t with bk := fun k' => if k' = k then none else t.bk k', n := t.n - 1 }
/-- The bucket that goes: that of the least moment, and of the least key among those. -/
def Goes (t : LT) (o : List UInt8) : Prop := ∃ po, t.bk o = some po ∧ ∀ k p, t.bk k = some p → ¬ older p.2 k po.2 o
theorem Tbl.cut {w w' : World} {base g m : Nat} {own : Nat → Prop} {t : LT} {D : DataW Unit} (h : Tbl w base own g t m D) {k : List UInt8} (hk : t.bk k ≠ none) (hti : Maps.Tidy D)
    (hm : w'.ownsMap Try.prog 9 ptrElem m t.n (D.del (.string k))) (hg : w.grownBy w' (some m)) : Tbl w' base own g (t.cut k) m (D.del (.string k)) ∧ Turns own w w' := by
  have hgm : g ≠ m := fun e => by obtain ⟨es, c, h1, _⟩ := h.map; have := h.blk; rw [e, h1] at this; simp at this
  have hbkm : ∀ (b : Nat) (q : Int × Int), w.heap[b]? = some (.cells #[.int .i64 q.1, .int .i64 q.2] 49 (0, 0)) → b ≠ m := fun b q hb e => by obtain ⟨es, c, h1, _⟩ := h.map; rw [e, h1] at hb; simp at hb
  have hblk : ∀ k, k < w.heap.size → k ≠ m → w'.heap[k]? = w.heap[k]? := fun k hk hne => hg.block k hk (fun e => hne (by cases e; rfl))
  obtain ⟨p, hp⟩ : ∃ p, t.bk k = some p := by cases e : t.bk k with | none => exact absurd e hk | some p => exact ⟨p, rfl⟩
  obtain ⟨b, hat, _, _⟩ := h.some_ k p hp
  have hhas : Maps.has D (.string k) = true := Maps.has_true_of_atKey hat
  have hsz : Maps.size (D.del (.string k)) = t.n - 1 := by
    have := Maps.size_del (k := .string k) hti
    rw [hhas, h.size] at this
    simp at this
    omega
  have hbk : ∀ k', (t.cut k).bk k' = if k' = k then none else t.bk k' := fun _ => rfl
  have hsome : ∀ k' q, (t.cut k).bk k' = some q → k' ≠ k ∧ t.bk k' = some q := fun k' q hq => by
    rw [hbk] at hq
    by_cases e : k' = k
    · rw [if_pos e] at hq; cases hq
    · rw [if_neg e] at hq; exact ⟨e, hq⟩
  refine ⟨⟨(hblk g (h.bnd _ h.ownG).2 hgm).trans h.blk, ?_, hsz, fun k' hk' => ?_, fun k' q hq => ?_, fun k1 k2 q1 q2 h1 h2 he => ?_, h.ownG, h.ownM, fun k hk => ⟨(h.bnd k hk).1, Nat.lt_of_lt_of_le (h.bnd k hk).2 hg.size⟩⟩, Turns.of_grown hg (fun k e => by cases e; exact h.ownM)⟩
  · obtain ⟨es, clock, h1, h2, h3, h4⟩ := hm
    refine ⟨es, clock, h1, h2, ?_, h4⟩
    have e1 : Maps.size (D.del (.string k)) = es.size := by rw [h4]; simp [Maps.size, length_sorted]
    show es.size ≤ t.n - 1
    omega
  · rw [hbk] at hk'
    by_cases e : k' = k
    · rw [e]; exact Maps.has_del_same
    · rw [if_neg e] at hk'
      rw [Maps.has_del_other (fun e' => e (Lit.string.inj e'))]
      exact h.none_ k' hk'
  · obtain ⟨e, hq'⟩ := hsome k' q hq
    obtain ⟨b', h2, h3, h4⟩ := h.some_ k' q hq'
    exact ⟨b', fun z => by rw [Maps.atKey_del_other (fun e' => e (Lit.string.inj e'))]; exact h2 z, (hblk b' (h.bnd _ h4).2 (hbkm b' q h3)).trans h3, h4⟩
  · obtain ⟨e1, h1'⟩ := hsome k1 q1 h1
    obtain ⟨e2, h2'⟩ := hsome k2 q2 h2
    rw [Maps.atKey_del_other (fun e' => e1 (Lit.string.inj e')), Maps.atKey_del_other (fun e' => e2 (Lit.string.inj e'))] at he
    exact h.inj k1 k2 q1 q2 h1' h2' he
end Go.Proofs.Ytkbbelbcjokncaa
