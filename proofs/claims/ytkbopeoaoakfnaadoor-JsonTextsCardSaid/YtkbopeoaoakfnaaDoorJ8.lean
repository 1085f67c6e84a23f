/- json: values in memory; rows of values under way. No conditions. -/
import Derived.Test.YtkbopeoaoakfnaaDoorJ7
import Derived.Test.YtkbopeoaoakfnaaDoorH0
namespace Go.Proofs.YtkbopeoaoakfnaaDoor
open Go.RowKit
/-- What A points to reads xs; its block is one of F's. -/
def Rd (w : World) (F : Nat → Prop) (A : Option Addr) (xs : List Value) : Prop := xs ≠ [] → ∃ b off, A = some ⟨b, off, none⟩ ∧ F b ∧ ∀ j u, xs[j]? = some u → w.cell? ⟨b, off + j, none⟩ = some u
/-- The cells of an object's members. -/
def mems (ks : List (List UInt8)) (us : List Value) : List Value := (List.zipWith (fun k u => [Value.string ⟨k.toArray⟩, u]) ks us).flatten
/-- v is the value j; all that it is made of lies in F's blocks. -/
inductive IsV (w : World) (F : Nat → Prop) : Value → JV → Prop where
  | nil : IsV w F .nilIface .nil
  | null : IsV w F (.iface 70 (.agg #[])) .null
  | bool (b : Bool) : IsV w F (.iface 71 (.bool b)) (.bool b)
  | num (s : List UInt8) : IsV w F (.iface 61 (.string ⟨s.toArray⟩)) (.num s)
  | text (s : List UInt8) : IsV w F (.iface 41 (.string ⟨s.toArray⟩)) (.text s)
  | list (A : Option Addr) (c : Nat) (us : List Value) (l : List JV) (hu : us.length = l.length) (hr : Rd w F A us) (he : ∀ (i : Nat) (u : Value) (j : JV), us[i]? = some u → l[i]? = some j → IsV w F u j) : IsV w F (.iface 49 (.slice A l.length c)) (.list l)
  | obj (A : Option Addr) (c : Nat) (us : List Value) (ks : List (List UInt8)) (l : List JV) (hu : us.length = l.length) (hk : ks.length = l.length) (hr : Rd w F A (mems ks us)) (he : ∀ (i : Nat) (u : Value) (j : JV), us[i]? = some u → l[i]? = some j → IsV w F u j) : IsV w F (.iface 73 (.slice A l.length c)) (.obj ks l)
section
variable {w w' : World} {F F' : Nat → Prop} {v u : Value} {j : JV} {g lo : Nat}
theorem Rd.keep {A : Option Addr} {xs : List Value} (h : Rd w F A xs) (hk : ∀ k, F k → w'.heap[k]? = w.heap[k]?) (hF : ∀ k, F k → F' k) : Rd w' F' A xs := fun h0 => by
  obtain ⟨b, off, h1, h2, h3⟩ := h h0
  exact ⟨b, off, h1, hF b h2, fun j u hu => by rw [World.cell?_of_block (a := ⟨b, off + j, none⟩) (hk b h2)]; exact h3 j u hu⟩
theorem IsV.keep (h : IsV w F v j) (hk : ∀ k, F k → w'.heap[k]? = w.heap[k]?) (hF : ∀ k, F k → F' k) : IsV w' F' v j := by
  induction h with
  | nil => exact .nil
  | null => exact .null
  | bool b => exact .bool b
  | num s => exact .num s
  | text s => exact .text s
  | list A c us l hu hr _ ih => exact .list A c us l hu (hr.keep hk hF) ih
  | obj A c us ks l hu hkk hr _ ih => exact .obj A c us ks l hu hkk (hr.keep hk hF) ih
theorem IsV.one (h : IsV w F v j) : v.cells = #[v] ∧ v.oneCell' = true := by cases h <;> exact ⟨rfl, rfl⟩
/-- A row of values (a cell or two each) that the call owns, while it grows. -/
structure LV (w : World) (lo : Nat) (t : TypeId) (sz : Nat) (v : Value) (xs us : List Value) (l : List JV) : Prop where
  own : w.ownsRow lo t sz v l.length xs
  len : us.length = l.length
  each : ∀ (i : Nat) (u : Value) (j : JV), us[i]? = some u → l[i]? = some j → IsV w (fun k => lo ≤ k ∧ k < w.heap.size ∧ v.ownBlock ≠ some k) u j
variable {t : TypeId} {sz : Nat} {xs us : List Value} {l : List JV}
theorem LV.nil (w : World) (lo : Nat) (t : TypeId) (sz : Nat) : LV w lo t sz (.slice none 0 0) [] [] [] := ⟨World.ownsRow_nil w lo t sz, rfl, fun i u j h => by simp at h⟩
theorem LV.keep (h : LV w lo t sz v xs us l) (hs : w.heap.size ≤ w'.heap.size) (hk : ∀ k, lo ≤ k → k < w.heap.size → w'.heap[k]? = w.heap[k]?) : LV w' lo t sz v xs us l := by
  refine ⟨?_, h.len, fun i u j hu hj => (h.each i u j hu hj).keep (fun k hF => hk k hF.1 hF.2.1) (fun k hF => ⟨hF.1, by omega, hF.2.2⟩)⟩
  obtain ⟨hl, h1 | ⟨b, cap, cur, e1, e2, e3, e4⟩⟩ := h.own
  · exact ⟨hl, .inl h1⟩
  · exact ⟨hl, .inr ⟨b, cap, cur, e1, e2, (hk b e2 (lt_of_heap e3)).trans e3, e4⟩⟩
theorem LV.turn (h : LV w lo t sz v xs us l) (ht : Turn g w w') (hg : g < lo) : LV w' lo t sz v xs us l := h.keep ht.size (fun k h1 h2 => ht.block k h2 (by omega))
theorem LV.below (h : LV w lo t sz v xs us l) (hb : Below w.heap.size w w') : LV w' lo t sz v xs us l := h.keep hb.size (fun k _ h2 => hb.block k h2)
theorem LV.setCell {p : Addr} (h : LV w lo t sz v xs us l) (hp : p.block < lo) (x : Value) : LV (w.setCell p x) lo t sz v xs us l := h.keep (by simp [World.setCell]) (fun k h1 _ => Below.heap_setCell _ _ _ _ (by omega))
/-- One more behind: its own blocks were made since m, where the row lay below m. -/
theorem LV.more {m n : Nat} {v' : Value} {ys : List Value} {w2 : World} (h : LV w lo t sz v xs us l) (hv : ∀ k, v.ownBlock = some k → k < m) (hu : IsV w (fun k => m ≤ k ∧ k < w.heap.size) u j) (hb : Below w.heap.size w w2) (hn : n = l.length + 1)
    (ho : w'.ownsRow lo t sz v' n (xs ++ ys)) (hg : w2.grownBy w' v.ownBlock) (hb' : v'.ownBlock = v.ownBlock ∨ v'.ownBlock = some w2.heap.size) (hlo : lo ≤ m) : LV w' lo t sz v' (xs ++ ys) (us ++ [u]) (l ++ [j]) := by
  have hs1 := hb.size
  have hs2 := hg.size
  have hold : ∀ k, k < w.heap.size → v.ownBlock ≠ some k → w'.heap[k]? = w.heap[k]? := fun k h1 h2 => (hg.block k (by omega) (fun e => h2 e.symm)).trans (hb.block k h1)
  have hnew : ∀ k, k < w.heap.size → v.ownBlock ≠ some k → v'.ownBlock ≠ some k := fun k h1 h2 h3 => by
    rcases hb' with e | e
    · exact h2 (e ▸ h3)
    · rw [e] at h3
      injection h3 with h3
      omega
  refine ⟨by rw [List.length_append]; rw [hn] at ho; exact ho, by simp [h.len], fun i x y hx hy => ?_⟩
  rcases Nat.lt_or_ge i l.length with hi | hi
  · rw [List.getElem?_append_left (by rw [h.len]; exact hi)] at hx
    rw [List.getElem?_append_left hi] at hy
    exact (h.each i x y hx hy).keep (fun k hF => hold k hF.2.1 hF.2.2) (fun k hF => ⟨hF.1, by omega, hnew k hF.2.1 hF.2.2⟩)
  · have hi2 : i = l.length := by
      have := (List.getElem?_eq_some_iff.1 hy).1
      simp at this
      omega
    subst hi2
    rw [← h.len] at hx
    simp at hx hy
    subst hx hy
    have hne : ∀ k, m ≤ k → v.ownBlock ≠ some k := fun k h1 h2 => by have := hv k h2; omega
    exact hu.keep (fun k hF => hold k hF.2 (hne k hF.1)) (fun k hF => ⟨by omega, by omega, hnew k hF.2 (hne k hF.1)⟩)
theorem LV.blk (h : LV w lo t sz v xs us l) : ∀ k, v.ownBlock = some k → k < w.heap.size := fun k hk => (World.ownsRow.lt h.own k hk).2
theorem LV.rd (h : LV w lo t sz v xs us l) : ∃ A c, v = .slice A l.length c ∧ l.length ≤ c ∧ Rd w (fun k => lo ≤ k ∧ k < w.heap.size) A xs := by
  have hr := h.own
  obtain ⟨hl, h0 | ⟨b, cap, cur, rfl, hb, hh, hle, _⟩⟩ := h.own
  · obtain ⟨rfl, hn⟩ := h0
    have hx : xs = [] := List.eq_nil_of_length_eq_zero (by rw [hl, hn]; omega)
    subst hx
    exact ⟨none, 0, by rw [hn], by omega, fun h0 => absurd rfl h0⟩
  · refine ⟨_, cap, rfl, hle, fun h0 => ⟨b, 0, rfl, ⟨hb, lt_of_heap hh⟩, fun j u hu => ?_⟩⟩
    obtain ⟨A, c, hv, _, hrd⟩ := ownR_form hr
    cases hv
    obtain ⟨ad, e, _, hc⟩ := hrd.2 (by
      rcases Nat.eq_zero_or_pos l.length with h1 | h1
      · exact absurd (List.eq_nil_of_length_eq_zero (by rw [hl, h1]; omega)) h0
      · exact h1)
    cases e
    have := hc j u hu
    rwa [add_none] at this
theorem LV.list (h : LV w lo 30 1 v us us l) : IsV w (fun k => lo ≤ k ∧ k < w.heap.size) (.iface 49 v) (.list l) := by
  obtain ⟨A, c, rfl, _, hr⟩ := h.rd
  exact .list A c us l h.len hr (fun i u j hu hj => (h.each i u j hu hj).keep (fun k _ => rfl) (fun k hF => ⟨hF.1, hF.2.1⟩))
theorem LV.obj {ks : List (List UInt8)} (h : LV w lo 75 2 v (mems ks us) us l) (hk : ks.length = l.length) : IsV w (fun k => lo ≤ k ∧ k < w.heap.size) (.iface 73 v) (.obj ks l) := by
  obtain ⟨A, c, rfl, _, hr⟩ := h.rd
  exact .obj A c us ks l h.len hk hr (fun i u j hu hj => (h.each i u j hu hj).keep (fun k _ => rfl) (fun k hF => ⟨hF.1, hF.2.1⟩))
theorem mems_more {ks : List (List UInt8)} {us : List Value} (h : ks.length = us.length) (k : List UInt8) (u : Value) : mems (ks ++ [k]) (us ++ [u]) = mems ks us ++ [.string ⟨k.toArray⟩, u] := by
  unfold mems
  rw [List.zipWith_append h]
  simp
end
end Go.Proofs.YtkbopeoaoakfnaaDoor
