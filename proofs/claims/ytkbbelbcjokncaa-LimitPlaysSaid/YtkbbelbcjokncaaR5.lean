/- The bucket that goes is one and the same in both tables. No conditions. -/
import Derived.Test.YtkbbelbcjokncaaR4
namespace Go.Proofs.Ytkbbelbcjokncaa
open Go.RowKit
theorem less_total : ∀ a b : List UInt8, Op.bytesLess a b = false → Op.bytesLess b a = false → a = b
  | [], [], _, _ => rfl
  | [], _ :: _, h, _ => by simp [Op.bytesLess] at h
  | _ :: _, [], _, h => by simp [Op.bytesLess] at h
  | x :: a, y :: b, h1, h2 => by
    simp only [Op.bytesLess, Bool.or_eq_false_iff, Bool.and_eq_false_iff, decide_eq_false_iff_not, beq_eq_false_iff_ne] at h1 h2
    have hxy : x = y := by
      have h3 : ¬ x.toNat < y.toNat := fun h => h1.1 (UInt8.lt_iff_toNat_lt.2 h)
      have h4 : ¬ y.toNat < x.toNat := fun h => h2.1 (UInt8.lt_iff_toNat_lt.2 h)
      exact UInt8.toNat_inj.1 (by omega)
    subst hxy
    rcases h1.2 with h | h
    · exact absurd rfl h
    · rcases h2.2 with h' | h'
      · exact absurd rfl h'
      · rw [less_total a b h h']
theorem Goes.one {t : LT} {o o' : List UInt8} (h : Goes t o) (h' : Goes t o') : o = o' := by
  obtain ⟨p, hp, h1⟩ := h
  obtain ⟨p', hp', h2⟩ := h'
  have a := h1 o' p' hp'
  have b := h2 o p hp
  unfold older at a b
  have e : p.2 = p'.2 := by omega
  refine less_total _ _ ?_ ?_
  · cases hb : Op.bytesLess o o' with
    | false => rfl
    | true => exact absurd (.inr ⟨e, hb⟩) b
  · cases hb : Op.bytesLess o' o with
    | false => rfl
    | true => exact absurd (.inr ⟨e.symm, hb⟩) a
/-- Among the first n the one at i is the least. -/
def Least (l : List Bk) (n i : Nat) : Prop := ∃ b, l[i]? = some b ∧ ∀ j c, l[j]? = some c → j < n → ¬ older c.2.2 (keyOfB c) b.2.2 (keyOfB b)
theorem Least.step {l : List Bk} {n i : Nat} {b c : Bk} (h : Least l n i) (hb : l[i]? = some b) (hc : l[n]? = some c) :
    (older c.2.2 (keyOfB c) b.2.2 (keyOfB b) → Least l (n + 1) n) ∧ (¬ older c.2.2 (keyOfB c) b.2.2 (keyOfB b) → Least l (n + 1) i) := by
  obtain ⟨b', hb', h1⟩ := h
  rw [hb] at hb'
  cases hb'
  refine ⟨fun ho => ⟨c, hc, fun j d hd hj ho' => ?_⟩, fun ho => ⟨b, hb, fun j d hd hj => ?_⟩⟩
  · rcases Nat.lt_succ_iff_lt_or_eq.1 hj with hj | rfl
    · exact h1 j d hd hj (older_trans ho' ho)
    · rw [hc] at hd; cases hd; exact older_irrefl _ _ ho'
  · rcases Nat.lt_succ_iff_lt_or_eq.1 hj with hj | rfl
    · exact h1 j d hd hj
    · rw [hc] at hd; cases hd; exact ho
theorem lk_at {l : List Bk} {k : List UInt8} {p : Int × Int} (h : lk l k = some p) : ∃ (j : Nat) (b : Bk), l[j]? = some b ∧ keyOfB b = k ∧ b.2 = p := by
  induction l with
  | nil => cases h
  | cons x t ih =>
    rw [lk_cons] at h
    by_cases e : keyOfB x = k
    · rw [if_pos e] at h
      exact ⟨0, x, rfl, e, Option.some.inj h⟩
    · rw [if_neg e] at h
      obtain ⟨j, b, h1, h2⟩ := ih h
      exact ⟨j + 1, b, by simpa using h1, h2⟩
theorem lk_of {l : List Bk} {j : Nat} {b : Bk} (hn : (l.map keyOfB).Nodup) (h : l[j]? = some b) : lk l (keyOfB b) = some b.2 := by
  have h1 := lk_set l j b b.2 (keyOfB b) h hn
  rw [if_pos rfl] at h1
  have h2 : l.set j (b.1, b.2) = l := by
    apply List.ext_getElem?
    intro i
    by_cases e : i = j
    · subst e
      have hlt : i < l.length := by
        rcases Nat.lt_or_ge i l.length with h' | h'
        · exact h'
        · rw [List.getElem?_eq_none h'] at h; cases h
      rw [List.getElem?_set_self hlt, h]
    · rw [List.getElem?_set_ne (Ne.symm e)]
  rwa [h2] at h1
theorem Same.goes {t : LT} {r : RT} (h : Same t r) {i : Nat} {b : Bk} (hb : r.bs[i]? = some b) (hl : Least r.bs r.bs.length i) : Goes t (keyOfB b) := by
  obtain ⟨b', hb', h1⟩ := hl
  rw [hb] at hb'
  cases hb'
  refine ⟨b.2, by rw [h.bk]; exact lk_of h.apart hb, fun k p hk => ?_⟩
  rw [h.bk] at hk
  obtain ⟨j, c, hj, rfl, rfl⟩ := lk_at hk
  have hlt : j < r.bs.length := by
    rcases Nat.lt_or_ge j r.bs.length with h' | h'
    · exact h'
    · rw [List.getElem?_eq_none h'] at hj; cases hj
  exact h1 j c hj hlt
theorem lk_erase (l : List Bk) : ∀ (n : Nat) (b : Bk) (k : List UInt8), l[n]? = some b → (l.map keyOfB).Nodup → lk (l.eraseIdx n) k = if k = keyOfB b then none else lk l k := by
  induction l with
  | nil => intro n b k h; simp at h
  | cons x t ih =>
    intro n b k h hn
    rw [List.map_cons, List.nodup_cons] at hn
    cases n with
    | zero =>
      obtain rfl : x = b := by simpa using h
      rw [List.eraseIdx_cons_zero, lk_cons]
      by_cases e : keyOfB x = k
      · rw [if_pos e.symm, lk_none_iff, ← e]; exact hn.1
      · rw [if_neg (fun e' => e e'.symm), if_neg e]
    | succ n =>
      have h' : t[n]? = some b := by simpa using h
      rw [List.eraseIdx_cons_succ, lk_cons, lk_cons, ih n b k h' hn.2]
      have hne : keyOfB x ≠ keyOfB b := fun e => hn.1 (by rw [e]; exact List.mem_map.2 ⟨b, List.mem_of_getElem? h', rfl⟩)
      by_cases e : keyOfB x = k
      · rw [if_pos e, if_neg (fun e' => hne (by rw [e, e'])), if_pos e]
      · rw [if_neg e, if_neg e]
/-- A bucket goes from both. -/
theorem Same.cut {t : LT} {r : RT} (h : Same t r) {n : Nat} {b : Bk} (hb : r.bs[n]? = some b) : Same (t.cut (keyOfB b)) { r with bs := r.bs.eraseIdx n } := by
  have hlt : n < r.bs.length := by
    rcases Nat.lt_or_ge n r.bs.length with h' | h'
    · exact h'
    · rw [List.getElem?_eq_none h'] at hb; cases hb
  refine ⟨h.most, h.each, ?_, ?_, fun k => ?_⟩
  · show t.n - 1 = (r.bs.eraseIdx n).length; rw [List.length_eraseIdx_of_lt hlt, h.n]
  · exact h.apart.sublist ((List.eraseIdx_sublist r.bs n).map keyOfB)
  · show (if k = keyOfB b then none else t.bk k) = lk (r.bs.eraseIdx n) k
    rw [lk_erase r.bs n b k hb h.apart, h.bk]
end Go.Proofs.Ytkbbelbcjokncaa
