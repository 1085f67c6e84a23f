/- Both tables beside each other, and what they answer alike. No conditions. -/
import Derived.Test.YtkbbelbcjokncaaR12
namespace Go.Proofs.Ytkbbelbcjokncaa
open Go.RowKit
variable {w w' w0 : World} {base g m g' : Nat} {own : Nat → Prop} {t t' : LT} {r r' : RT} {V : Value} {k : List UInt8} {now : Int}
theorem Rtb.keep (h : Rtb w base own g r V) (hs : w.heap.size ≤ w'.heap.size) (hb : ∀ k, own k → w'.heap[k]? = w.heap[k]?) : Rtb w' base own g r V := by
  refine ⟨(hb g h.ownG).trans h.blk, ?_, h.ownG, h.ownV, fun k hk => ⟨(h.bnd k hk).1, Nat.lt_of_lt_of_le (h.bnd k hk).2 hs⟩, h.gV⟩
  obtain ⟨hl, hn | ⟨gV, cap, cur, hv, h1, h2, h3⟩⟩ := h.row
  · exact ⟨hl, .inl hn⟩
  · exact ⟨hl, .inr ⟨gV, cap, cur, hv, h1, (hb gV (h.ownV _ (by rw [hv]; rfl))).trans h2, h3⟩⟩
theorem Rtb.low {base' : Nat} (h : Rtb w base own g r V) (hb : base' ≤ base) : Rtb w base' own g r V := by
  refine ⟨h.blk, ?_, h.ownG, h.ownV, fun k hk => ⟨Nat.le_trans hb (h.bnd k hk).1, (h.bnd k hk).2⟩, h.gV⟩
  obtain ⟨hl, hn | ⟨gV, cap, cur, hv, h1, h2, h3⟩⟩ := h.row
  · exact ⟨hl, .inl hn⟩
  · exact ⟨hl, .inr ⟨gV, cap, cur, hv, Nat.le_trans hb h1, h2, h3⟩⟩
def Pair (w0 w : World) (g m : Nat) (t : LT) (g' : Nat) (r : RT) : Prop :=
  ∃ own D own' V, Tbl w w0.heap.size own g t m D ∧ Rtb w w0.heap.size own' g' r V ∧ (∀ k, own k → own' k → False) ∧ Below w0.heap.size w0 w
theorem Pair.below0 (h : Pair w0 w g m t g' r) : Below w0.heap.size w0 w := by obtain ⟨_, _, _, _, _, _, _, hb⟩ := h; exact hb
theorem Pair.drew (h : Pair w0 w g m t g' r) (n : Nat) : Pair w0 { w with drawn := n } g m t g' r := by
  obtain ⟨oA, D, oB, V, hA, hB, hd, hb⟩ := h
  have hw : Below w.heap.size w { w with drawn := n } := ⟨rfl, rfl, rfl, Nat.le_refl _, fun _ _ => rfl⟩
  exact ⟨oA, D, oB, V, hA.below hw, hB.below hw, hd, hb.trans (hw.mono hb.size)⟩
/-- What the program's Take may do. -/
def PStep (t : LT) (k : List UInt8) (now : Int) (x : Bool) (t' : LT) : Prop :=
  ((t.bk k = none → t.n < 64) ∧ x = (t.take k now).1 ∧ t' = (t.take k now).2) ∨ (t.bk k = none ∧ t.n = 64 ∧ ∃ o, Goes t o ∧ x = ((t.cut o).take k now).1 ∧ t' = ((t.cut o).take k now).2)
/-- What the reference's Take may do. -/
def RStep (r : RT) (s : ByteArray) (now : Int) (y : Bool) (r' : RT) : Prop :=
  (∃ n b, r.find s.data.toList = some n ∧ r.bs[n]? = some b ∧ y = decide ((refilled r.most r.each b.2 now).1 ≠ 0) ∧ r' = { r with bs := r.bs.set n (b.1, took (refilled r.most r.each b.2 now)) }) ∨
  (r.find s.data.toList = none ∧ r.bs.length < 64 ∧ y = true ∧ r' = { r with bs := r.bs ++ [(s, r.most - 1, now)] }) ∨
  (r.find s.data.toList = none ∧ r.bs.length = 64 ∧ y = true ∧ ∃ n, Least r.bs r.bs.length n ∧ n < r.bs.length ∧ r' = { r with bs := r.bs.eraseIdx n ++ [(s, r.most - 1, now)] })
structure RT.ok (r : RT) : Prop where
  most : 1 ≤ r.most ∧ r.most ≤ 2147483648
  each : 0 ≤ r.each ∧ r.each ≤ 2147483648
  bk : ∀ (n : Nat) b, r.bs[n]? = some b → (0 ≤ b.2.1 ∧ b.2.1 ≤ r.most) ∧ -9223372036854775808 ≤ b.2.2 ∧ b.2.2 ≤ 9223372036854775807
  few : r.bs.length ≤ 64
theorem find_at {n : Nat} (h : r.find k = some n) : ∃ b, r.bs[n]? = some b ∧ keyOfB b = k := by
  obtain ⟨hn, h1, _⟩ := List.findIdx?_eq_some_iff_getElem.1 h
  exact ⟨r.bs[n], List.getElem?_eq_getElem hn, by simpa [keyOfB] using h1⟩
theorem find_not (h : r.find k = none) : lk r.bs k = none := by
  rw [lk_none_iff]
  intro hm
  obtain ⟨b, hb, rfl⟩ := List.mem_map.1 hm
  have := List.findIdx?_eq_none_iff.1 h b hb
  simp [keyOfB] at this
theorem Same.found (h : Same t r) {n : Nat} (hf : r.find k = some n) : ∃ b, r.bs[n]? = some b ∧ keyOfB b = k ∧ t.bk k = some b.2 := by
  obtain ⟨b, hb, rfl⟩ := find_at hf
  exact ⟨b, hb, rfl, by rw [h.bk]; exact lk_of h.apart hb⟩
theorem Same.tokens (h : Same t r) (k : List UInt8) : t.tokens k = r.tokens k := by
  unfold LT.tokens RT.tokens
  cases hf : r.find k with
  | none => rw [h.bk, find_not hf, h.most]
  | some n =>
    obtain ⟨b, hb, _, hk⟩ := h.found hf
    rw [hk]
    simp only [List.getD_eq_getElem?_getD, hb, Option.getD_some]
theorem Same.rok (h : Same t r) (ht : t.ok) (h64 : t.n ≤ 64) : r.ok := by
  refine ⟨h.most ▸ ht.most, h.each ▸ ht.each, fun n b hb => ?_, h.n ▸ h64⟩
  have := ht.bk (keyOfB b) b.2 (by rw [h.bk]; exact lk_of h.apart hb)
  rw [h.most] at this
  exact this
theorem fresh_asked (h : t.bk k = none) : t.asked k now = (t.most, now) := by unfold LT.asked refilled; rw [h]; simp
theorem fresh_take (ht : 1 ≤ t.most) (h : t.bk k = none) : t.take k now = (true, t.set k (t.most - 1, now)) := by
  unfold LT.take took
  rw [fresh_asked h]
  have : t.most ≠ 0 := by omega
  simp [this]
theorem Same.step (h : Same t r) (ht : t.ok) (h64 : t.n ≤ 64) {s : ByteArray} {x y : Bool} (hp : PStep t s.data.toList now x t') (hr : RStep r s now y r') : x = y ∧ Same t' r' ∧ t'.n ≤ 64 := by
  rcases hr with ⟨n, b, hf, hb, rfl, rfl⟩ | ⟨hf, hlt, rfl, rfl⟩ | ⟨hf, h64', rfl, n, hl, hn, rfl⟩
  · obtain ⟨b', hb', hk, hbk⟩ := h.found hf
    rw [hb] at hb'
    cases hb'
    rcases hp with ⟨_, rfl, rfl⟩ | ⟨h0, _⟩
    · have ha : t.asked s.data.toList now = refilled r.most r.each b.2 now := by unfold LT.asked; rw [hbk, h.most, h.each]; rfl
      unfold LT.take
      rw [ha, ← hk]
      have hs := h.set hb (took (refilled r.most r.each b.2 now))
      refine ⟨rfl, hs, ?_⟩
      unfold LT.set
      rw [if_neg (by rw [hk, hbk]; simp)]
      exact h64
    · rw [hbk] at h0; cases h0
  · have hno : t.bk s.data.toList = none := by rw [h.bk]; exact find_not hf
    rcases hp with ⟨_, rfl, rfl⟩ | ⟨_, hn64, o, hg, rfl, rfl⟩
    · rw [fresh_take ht.most.1 hno, h.most]
      refine ⟨rfl, h.put s (r.most - 1, now) hno, ?_⟩
      have := h.n
      show (t.set _ _).n ≤ 64
      unfold LT.set
      rw [if_pos hno]
      show t.n + 1 ≤ 64
      omega
    · have := h.n; omega
  · have hno : t.bk s.data.toList = none := by rw [h.bk]; exact find_not hf
    rcases hp with ⟨hlt, rfl, rfl⟩ | ⟨_, hn64, o, hg, rfl, rfl⟩
    · have := hlt hno; have := h.n; omega
    · obtain ⟨b, hb⟩ : ∃ b, r.bs[n]? = some b := ⟨_, List.getElem?_eq_getElem hn⟩
      obtain rfl := Goes.one hg (h.goes hb hl)
      have hc := h.cut hb
      have hno' : (t.cut (keyOfB b)).bk s.data.toList = none := by show (if s.data.toList = keyOfB b then none else t.bk s.data.toList) = none; rw [hno]; simp
      rw [fresh_take (t := t.cut (keyOfB b)) ht.most.1 hno']
      have hm : (t.cut (keyOfB b)).most = r.most := h.most
      rw [hm]
      refine ⟨rfl, hc.put s (r.most - 1, now) hno', ?_⟩
      show ((t.cut (keyOfB b)).set _ _).n ≤ 64
      unfold LT.set
      rw [if_pos hno']
      show t.n - 1 + 1 ≤ 64
      have := h.n
      omega
end Go.Proofs.Ytkbbelbcjokncaa
