/- The two tables hold the same. No conditions. -/
import Derived.Test.YtkbbelbcjokncaaR3
namespace Go.Proofs.Ytkbbelbcjokncaa
open Go.RowKit
def keyOfB (b : Bk) : List UInt8 := b.1.data.toList
def lk (l : List Bk) (k : List UInt8) : Option (Int × Int) := (l.find? fun b => keyOfB b == k).map (·.2)
theorem lk_nil (k : List UInt8) : lk [] k = none := rfl
theorem lk_cons (b : Bk) (l : List Bk) (k : List UInt8) : lk (b :: l) k = if keyOfB b = k then some b.2 else lk l k := by
  unfold lk
  rw [List.find?_cons]
  by_cases h : keyOfB b = k
  · simp [h]
  · have : (keyOfB b == k) = false := by simpa using h
    rw [this, if_neg h]
theorem lk_app (l : List Bk) (b : Bk) (k : List UInt8) (h : lk l (keyOfB b) = none) : lk (l ++ [b]) k = if k = keyOfB b then some b.2 else lk l k := by
  induction l with
  | nil =>
    rw [List.nil_append, lk_cons]
    by_cases e : keyOfB b = k
    · rw [if_pos e, if_pos e.symm]
    · rw [if_neg e, if_neg (fun e' => e e'.symm)]
  | cons x t ih =>
    rw [List.cons_append, lk_cons, lk_cons]
    rw [lk_cons] at h
    by_cases hx : keyOfB x = keyOfB b
    · rw [if_pos hx] at h; cases h
    · rw [if_neg hx] at h
      rw [ih h]
      by_cases e : keyOfB x = k
      · rw [if_pos e, if_neg (fun e' => hx (by rw [e, e'])), if_pos e]
      · rw [if_neg e, if_neg e]
theorem lk_set (l : List Bk) : ∀ (n : Nat) (b : Bk) (p : Int × Int) (k : List UInt8), l[n]? = some b → (l.map keyOfB).Nodup → lk (l.set n (b.1, p)) k = if k = keyOfB b then some p else lk l k := by
  induction l with
  | nil => intro n b p k h; simp at h
  | cons x t ih =>
    intro n b p k h hn
    rw [List.map_cons, List.nodup_cons] at hn
    cases n with
    | zero =>
      obtain rfl : x = b := by simpa using h
      rw [List.set_cons_zero, lk_cons, lk_cons]
      show (if keyOfB x = k then some p else lk t k) = _
      by_cases e : keyOfB x = k
      · rw [if_pos e, if_pos e.symm]
      · rw [if_neg e, if_neg (fun e' => e e'.symm), if_neg e]
    | succ n =>
      have h' : t[n]? = some b := by simpa using h
      rw [List.set_cons_succ, lk_cons, lk_cons, ih n b p k h' hn.2]
      have hne : keyOfB x ≠ keyOfB b := fun e => hn.1 (by rw [e]; exact List.mem_map.2 ⟨b, List.mem_of_getElem? h', rfl⟩)
      by_cases e : keyOfB x = k
      · rw [if_pos e, if_neg (fun e' => hne (by rw [e, e'])), if_pos e]
      · rw [if_neg e, if_neg e]
theorem lk_none_iff (l : List Bk) (k : List UInt8) : lk l k = none ↔ k ∉ l.map keyOfB := by
  induction l with
  | nil => simp [lk_nil]
  | cons x t ih =>
    rw [lk_cons]
    by_cases e : keyOfB x = k
    · rw [if_pos e]; simp [e]
    · rw [if_neg e, ih, List.map_cons, List.mem_cons]
      constructor
      · intro h h'
        rcases h' with h' | h'
        · exact e h'.symm
        · exact h h'
      · intro h h'; exact h (.inr h')
structure Same (t : LT) (r : RT) : Prop where
  most : t.most = r.most
  each : t.each = r.each
  n : t.n = r.bs.length
  apart : (r.bs.map keyOfB).Nodup
  bk : ∀ k, t.bk k = lk r.bs k
theorem Same.start (most each : Int) : Same (LT.fresh most each) (RT.fresh most each) := ⟨rfl, rfl, rfl, List.nodup_nil, fun _ => rfl⟩
/-- A bucket is turned in both. -/
theorem Same.set {t : LT} {r : RT} (h : Same t r) {n : Nat} {b : Bk} (hb : r.bs[n]? = some b) (p : Int × Int) : Same (t.set (keyOfB b) p) { r with bs := r.bs.set n (b.1, p) } := by
  have hlt : n < r.bs.length := by
    rcases Nat.lt_or_ge n r.bs.length with h' | h'
    · exact h'
    · rw [List.getElem?_eq_none h'] at hb; cases hb
  have hmem : keyOfB b ∈ r.bs.map keyOfB := List.mem_map.2 ⟨b, List.mem_of_getElem? hb, rfl⟩
  have hne : t.bk (keyOfB b) ≠ none := fun e => by rw [h.bk, lk_none_iff] at e; exact e hmem
  have hmap : (r.bs.set n (b.1, p)).map keyOfB = r.bs.map keyOfB := by
    rw [List.map_set]
    have : (r.bs.map keyOfB)[n]? = some (keyOfB (b.1, p)) := by rw [List.getElem?_map, hb]; rfl
    exact List.ext_getElem? fun i => by
      by_cases e : i = n
      · subst e; rw [List.getElem?_set_self (by rw [List.length_map]; exact hlt), this]
      · rw [List.getElem?_set_ne (Ne.symm e)]
  refine ⟨h.most, h.each, ?_, by rw [hmap]; exact h.apart, fun k => ?_⟩
  · unfold LT.set; rw [if_neg hne]; show t.n = (r.bs.set n (b.1, p)).length; rw [List.length_set]; exact h.n
  · show (if k = keyOfB b then some p else t.bk k) = lk (r.bs.set n (b.1, p)) k
    rw [lk_set r.bs n b p k hb h.apart, h.bk]
/-- A new one stands in both. -/
theorem Same.put {t : LT} {r : RT} (h : Same t r) (s : ByteArray) (p : Int × Int) (hs : t.bk s.data.toList = none) : Same (t.set s.data.toList p) { r with bs := r.bs ++ [(s, p)] } := by
  have hk : keyOfB (s, p) = s.data.toList := rfl
  have hl : lk r.bs (keyOfB (s, p)) = none := by rw [hk, ← h.bk]; exact hs
  refine ⟨h.most, h.each, ?_, ?_, fun k => ?_⟩
  · unfold LT.set; rw [if_pos hs]; show t.n + 1 = (r.bs ++ [(s, p)]).length; rw [h.n]; simp
  · rw [List.map_append, List.map_cons, List.map_nil]
    rw [List.nodup_append]
    refine ⟨h.apart, by simp, fun a ha b hb => ?_⟩
    rw [List.mem_singleton.1 hb]
    exact fun e => (lk_none_iff _ _).1 hl (e ▸ ha)
  · show (if k = s.data.toList then some p else t.bk k) = lk (r.bs ++ [(s, p)]) k
    rw [lk_app _ _ _ hl, h.bk]
    rfl
end Go.Proofs.Ytkbbelbcjokncaa
