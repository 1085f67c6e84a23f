/- The walks of Take where there is room, of Tokens and of Size. No conditions. -/
import Derived.Test.YtkbbelbcjokncaaT2
namespace Go.Proofs.Ytkbbelbcjokncaa
open Go.RowKit
variable {w w' : World} {base g m : Nat} {own : Nat → Prop} {t : LT} {D : DataW Unit}
structure LT.ok (t : LT) : Prop where
  most : 1 ≤ t.most ∧ t.most ≤ 2147483648
  each : 0 ≤ t.each ∧ t.each ≤ 2147483648
  bk : ∀ k p, t.bk k = some p → (0 ≤ p.1 ∧ p.1 ≤ t.most) ∧ -9223372036854775808 ≤ p.2 ∧ p.2 ≤ 9223372036854775807
def LT.set (t : LT) (k : List UInt8) (p : Int × Int) : LT := { t with bk := fun k' => if k' = k then some p else t.bk k', n := if t.bk k = none then t.n + 1 else t.n }
def took (r : Int × Int) : Int × Int := if r.1 = 0 then r else (r.1 - 1, r.2)
def LT.asked (t : LT) (k : List UInt8) (now : Int) : Int × Int := refilled t.most t.each ((t.bk k).getD (t.most, now)) now
def LT.take (t : LT) (k : List UInt8) (now : Int) : Bool × LT := (decide ((t.asked k now).1 ≠ 0), t.set k (took (t.asked k now)))
def LT.tokens (t : LT) (k : List UInt8) : Int := match t.bk k with | some p => p.1 | none => t.most
theorem refilled_ok {most each now : Int} {p : Int × Int} (hm : 1 ≤ most) (he : 0 ≤ each) (hp : (0 ≤ p.1 ∧ p.1 ≤ most) ∧ -9223372036854775808 ≤ p.2 ∧ p.2 ≤ 9223372036854775807) (hn : -9223372036854775808 ≤ now ∧ now ≤ 9223372036854775807) :
    (0 ≤ (refilled most each p now).1 ∧ (refilled most each p now).1 ≤ most) ∧ -9223372036854775808 ≤ (refilled most each p now).2 ∧ (refilled most each p now).2 ≤ 9223372036854775807 := by
  unfold refilled
  split
  · exact hp
  · rename_i h
    have : 0 ≤ each * (now - p.2) := Int.mul_nonneg he (by omega)
    refine ⟨⟨?_, ?_⟩, hn⟩
    · show 0 ≤ min most (p.1 + each * (now - p.2)); omega
    · show min most (p.1 + each * (now - p.2)) ≤ most; omega
theorem LT.asked_ok {t : LT} (h : t.ok) (k : List UInt8) {now : Int} (hn : -9223372036854775808 ≤ now ∧ now ≤ 9223372036854775807) :
    (0 ≤ (t.asked k now).1 ∧ (t.asked k now).1 ≤ t.most) ∧ -9223372036854775808 ≤ (t.asked k now).2 ∧ (t.asked k now).2 ≤ 9223372036854775807 := by
  refine refilled_ok h.most.1 h.each.1 ?_ hn
  cases hb : t.bk k with
  | none => exact ⟨⟨by show 0 ≤ t.most; have := h.most.1; omega, Int.le_refl _⟩, hn⟩
  | some p => exact h.bk k p hb
theorem LT.take_ok {t : LT} (h : t.ok) (k : List UInt8) {now : Int} (hn : -9223372036854775808 ≤ now ∧ now ≤ 9223372036854775807) : (t.take k now).2.ok := by
  refine ⟨h.most, h.each, fun k' p hk => ?_⟩
  have h1 : (if k' = k then some (took (t.asked k now)) else t.bk k') = some p := hk
  by_cases hkk : k' = k
  · rw [if_pos hkk] at h1
    cases h1
    obtain ⟨⟨a, b⟩, c⟩ := LT.asked_ok h k hn
    show (0 ≤ (took (t.asked k now)).1 ∧ (took (t.asked k now)).1 ≤ t.most) ∧ _
    unfold took
    split
    · exact ⟨⟨a, b⟩, c⟩
    · exact ⟨⟨by show 0 ≤ (t.asked k now).1 - 1; omega, by show (t.asked k now).1 - 1 ≤ _; omega⟩, c⟩
  · rw [if_neg hkk] at h1
    exact h.bk k' p h1
/-- One bucket is turned. -/
theorem Tbl.setBk (h : Tbl w base own g t m D) {k : List UInt8} {p r : Int × Int} {b : Nat} (hk : t.bk k = some p) (hat : ∀ z, D.atKey (.string k) z = .lit (.int .u64 (b : Int))) (ho : own b) (hb0 : w.heap[b]? = some (.cells #[.int .i64 p.1, .int .i64 p.2] 49 (0, 0)))
    (hg : w.grownBy w' (some b)) (hb : w'.heap[b]? = some (.cells #[.int .i64 r.1, .int .i64 r.2] 49 (0, 0))) : Tbl w' base own g (t.set k r) m D ∧ Turns own w w' := by
  have hbg : g ≠ b := fun e => by have := h.blk; rw [e, hb0] at this; simp at this
  have hbm : m ≠ b := fun e => by obtain ⟨es, c, h1, _⟩ := h.map; rw [e, hb0] at h1; simp at h1
  have hblk : ∀ k, k < w.heap.size → k ≠ b → w'.heap[k]? = w.heap[k]? := fun k hk hne => hg.block k hk (fun e => hne (by cases e; rfl))
  have hn : (t.set k r).n = t.n := by unfold LT.set; rw [if_neg (by rw [hk]; simp)]
  refine ⟨⟨(hblk g (h.bnd _ h.ownG).2 hbg).trans h.blk, ?_, h.size.trans hn.symm, fun k' hk' => ?_, fun k' q hk' => ?_, fun k1 k2 q1 q2 h1 h2 he => ?_, h.ownG, h.ownM, fun k hk => ⟨(h.bnd k hk).1, Nat.lt_of_lt_of_le (h.bnd k hk).2 hg.size⟩⟩, Turns.of_grown hg (fun k e => by cases e; exact ho)⟩
  · rw [hn]
    obtain ⟨es, clock, h1, h2⟩ := h.map
    exact ⟨es, clock, (hblk m (h.bnd _ h.ownM).2 hbm).trans h1, h2⟩
  · have h1 : (if k' = k then some r else t.bk k') = none := hk'
    by_cases e : k' = k
    · rw [if_pos e] at h1; cases h1
    · rw [if_neg e] at h1; exact h.none_ k' h1
  · have h1 : (if k' = k then some r else t.bk k') = some q := hk'
    by_cases e : k' = k
    · rw [if_pos e] at h1
      cases h1
      exact ⟨b, e ▸ hat, hb, ho⟩
    · rw [if_neg e] at h1
      obtain ⟨b', h2, h3, h4⟩ := h.some_ k' q h1
      refine ⟨b', h2, (hblk b' (h.bnd _ h4).2 (fun e' => e ?_)).trans h3, h4⟩
      exact h.inj k' k q p h1 hk (by rw [h2, hat, e'])
  · have f : ∀ k' q, (t.set k r).bk k' = some q → ∃ q', t.bk k' = some q' := fun k' q hq => by
      have h3 : (if k' = k then some r else t.bk k') = some q := hq
      by_cases e : k' = k
      · exact ⟨p, e ▸ hk⟩
      · rw [if_neg e] at h3; exact ⟨q, h3⟩
    obtain ⟨q1', e1⟩ := f k1 q1 h1
    obtain ⟨q2', e2⟩ := f k2 q2 h2
    exact h.inj k1 k2 q1' q2' e1 e2 he
/-- A new bucket is put in. -/
theorem Tbl.put (h : Tbl w base own g t m D) {k : List UInt8} {p : Int × Int} {w2 : World} (hk : t.bk k = none) (hik : WideAt.IsKeyLit (.string k)) (hti : Maps.Tidy D)
    (hm2 : w2.ownsMap Try.prog 9 ptrElem m (t.n + 1) (D.put (.string k) (.lit (.int .u64 (w.heap.size : Int))))) (hg2 : (w.alloc (.cells #[.int .i64 p.1, .int .i64 p.2] 49 (0, 0))).grownBy w2 (some m)) :
    Tbl w2 base (fun k => own k ∨ k = w.heap.size) g (t.set k p) m (D.put (.string k) (.lit (.int .u64 (w.heap.size : Int)))) ∧ Turns own w w2 ∧ w2.heap[w.heap.size]? = some (.cells #[.int .i64 p.1, .int .i64 p.2] 49 (0, 0)) ∧ (∀ z, (D.put (.string k) (.lit (.int .u64 (w.heap.size : Int)))).atKey (.string k) z = .lit (.int .u64 (w.heap.size : Int))) := by
  have hml := (h.bnd _ h.ownM).2
  have hgm : g ≠ m := fun e => by obtain ⟨es, c, h1, _⟩ := h.map; have := h.blk; rw [e, h1] at this; simp at this
  have hsz : w.heap.size < w2.heap.size := by have := hg2.size; simp at this; omega
  have hblk : ∀ k, k < w.heap.size → k ≠ m → w2.heap[k]? = w.heap[k]? := fun k hk hne =>
    (hg2.block k (by simp; omega) (fun e => hne (by cases e; rfl))).trans (Below.heap_alloc w _ k hk)
  have hnew : w2.heap[w.heap.size]? = some (.cells #[.int .i64 p.1, .int .i64 p.2] 49 (0, 0)) :=
    (hg2.block w.heap.size (by simp) (fun e => by have : w.heap.size = m := (Option.some.inj e); omega)).trans (heap_alloc_new w _)
  have hn : (t.set k p).n = t.n + 1 := by unfold LT.set; rw [if_pos hk]
  have hhas := h.none_ k hk
  have hat : ∀ z, (D.put (.string k) (.lit (.int .u64 (w.heap.size : Int)))).atKey (.string k) z = .lit (.int .u64 (w.heap.size : Int)) := fun z => Maps.atKey_put_same hti.isMap hik _ z
  have hbkm : ∀ (b : Nat) (q : Int × Int), w.heap[b]? = some (.cells #[.int .i64 q.1, .int .i64 q.2] 49 (0, 0)) → b ≠ m := fun b q hb e => by obtain ⟨es, c, h1, _⟩ := h.map; rw [e, h1] at hb; simp at hb
  refine ⟨⟨(hblk g (h.bnd _ h.ownG).2 hgm).trans h.blk, hn ▸ hm2, ?_, fun k' hk' => ?_, fun k' q hk' => ?_, fun k1 k2 q1 q2 h1 h2 he => ?_, .inl h.ownG, .inl h.ownM, fun k hk => ?_⟩, ⟨hg2.os, hg2.tape, hg2.output, Nat.le_of_lt hsz, fun k hk hne => hblk k hk (fun e => hne (e ▸ h.ownM))⟩, hnew, hat⟩
  · rw [Maps.size_put hti, hhas, hn, h.size]
    rfl
  · have h1 : (if k' = k then some p else t.bk k') = none := hk'
    by_cases e : k' = k
    · rw [if_pos e] at h1; cases h1
    · rw [if_neg e] at h1
      rw [Maps.has_put_other (fun e' => e (Lit.string.inj e'))]
      exact h.none_ k' h1
  · have h1 : (if k' = k then some p else t.bk k') = some q := hk'
    by_cases e : k' = k
    · rw [if_pos e] at h1
      cases h1
      exact ⟨w.heap.size, e ▸ hat, hnew, .inr rfl⟩
    · rw [if_neg e] at h1
      obtain ⟨b', h2, h3, h4⟩ := h.some_ k' q h1
      exact ⟨b', fun z => by rw [Maps.atKey_put_other (fun e' => e (Lit.string.inj e'))]; exact h2 z, (hblk b' (h.bnd _ h4).2 (hbkm b' q h3)).trans h3, .inl h4⟩
  · have f : ∀ k' q, k' ≠ k → (t.set k p).bk k' = some q → t.bk k' = some q := fun k' q e hq => by
      have h3 : (if k' = k then some p else t.bk k') = some q := hq
      rwa [if_neg e] at h3
    have nw : ∀ k' q, k' ≠ k → t.bk k' = some q → D.atKey (.string k') .nil ≠ .lit (.int .u64 (w.heap.size : Int)) := fun k' q _ hq e => by
      obtain ⟨b', h2, _, h4⟩ := h.some_ k' q hq
      rw [h2] at e
      simp only [DataW.lit.injEq, Lit.int.injEq, true_and] at e
      have := (h.bnd _ h4).2
      omega
    by_cases e1 : k1 = k
    · by_cases e2 : k2 = k
      · rw [e1, e2]
      · rw [e1, hat, Maps.atKey_put_other (fun e' => e2 (Lit.string.inj e'))] at he
        exact absurd he.symm (nw k2 q2 e2 (f k2 q2 e2 h2))
    · by_cases e2 : k2 = k
      · rw [e2, hat, Maps.atKey_put_other (fun e' => e1 (Lit.string.inj e'))] at he
        exact absurd he (nw k1 q1 e1 (f k1 q1 e1 h1))
      · rw [Maps.atKey_put_other (fun e' => e1 (Lit.string.inj e')), Maps.atKey_put_other (fun e' => e2 (Lit.string.inj e'))] at he
        exact h.inj k1 k2 q1 q2 (f k1 q1 e1 h1) (f k2 q2 e2 h2) he
  · rcases hk with hk | rfl
    · exact ⟨(h.bnd k hk).1, Nat.lt_trans (h.bnd k hk).2 hsz⟩
    · exact ⟨Nat.le_of_lt (Nat.lt_of_le_of_lt (h.bnd _ h.ownG).1 (h.bnd _ h.ownG).2), hsz⟩
end Go.Proofs.Ytkbbelbcjokncaa
