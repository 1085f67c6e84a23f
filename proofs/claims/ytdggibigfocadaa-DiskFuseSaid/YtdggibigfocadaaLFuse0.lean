/- A disk with a fuse, in plain words. No conditions. -/
import Derived.Test.YtdggibigfocadaaD14
namespace Go.Proofs.Ytdggibigfocadaa
open Go.RowKit
/-- The disk behind i operations of those that a fuse of n allows. -/
structure FuseInv (n i : Nat) (s : DS) : Prop where
  len : s.secs.length = 64
  full : s.full = false
  lit : s.lit = true
  pend : s.pend.length ≤ n
  pend' : s.pend.length ≤ i
  on : i ≤ n → s.down = false ∧ s.fuse = (n : Int) - i
  off : n < i → s.down = true
theorem FuseInv.start (n : Nat) : FuseInv n 0 ((DS.fresh 64).setFuse n) :=
  ⟨List.length_replicate, rfl, by simp [DS.setFuse], Nat.zero_le _, Nat.zero_le _, fun _ => ⟨rfl, by simp [DS.setFuse]⟩, fun h => by omega⟩
theorem FuseInv.opYes {n i : Nat} {s : DS} (h : FuseInv n i s) (hi : i < n) (hn : n < 256) : s.op = (true, { s with fuse := (n : Int) - (i + 1 : Nat) }) := by
  obtain ⟨h1, h2⟩ := h.on (by omega)
  unfold DS.op
  rw [if_neg (by rw [h1]; simp), if_neg (by rw [h2]; simp; omega), h2]
  have : wrap64 ((n : Int) - i - 1) = (n : Int) - (i + 1 : Nat) := by unfold wrap64; omega
  rw [this]
theorem FuseInv.opNo {n i : Nat} {s : DS} (h : FuseInv n i s) (hi : n ≤ i) : ∃ s', s.op = (false, s') ∧ FuseInv n (i + 1) s' := by
  rcases Nat.eq_or_lt_of_le hi with rfl | hi
  · obtain ⟨h1, h2⟩ := h.on (Nat.le_refl _)
    refine ⟨{ s with down := true }, ?_, h.len, h.full, h.lit, h.pend, by have := h.pend'; show s.pend.length ≤ _; omega, fun h => by omega, fun _ => rfl⟩
    unfold DS.op
    rw [if_neg (by rw [h1]; simp), if_pos (by rw [h.lit, h2]; simp)]
  · refine ⟨s, ?_, h.len, h.full, h.lit, h.pend, by have := h.pend'; omega, fun h => by omega, fun _ => h.off hi⟩
    unfold DS.op
    rw [if_pos (h.off hi)]
theorem FuseInv.sync {n i : Nat} {s : DS} (h : FuseInv n i s) (hn : n < 256) : ∃ s', s.sync = (if i < n then 0 else 9, s') ∧ FuseInv n (i + 1) s' := by
  by_cases hi : i < n
  · rw [if_pos hi]
    have ho := h.opYes hi hn
    refine ⟨{ s with secs := syncAll s.secs s.pend, pend := [], fuse := (n : Int) - (i + 1 : Nat) }, by unfold DS.sync; rw [ho, if_pos rfl], by show (syncAll s.secs s.pend).length = 64; rw [syncAll_length]; exact h.len, h.full, h.lit, Nat.zero_le _, Nat.zero_le _, fun _ => ⟨(h.on (by omega)).1, rfl⟩, fun h => by omega⟩
  · rw [if_neg hi]
    obtain ⟨s', ho, hs'⟩ := h.opNo (by omega)
    exact ⟨s', by unfold DS.sync; rw [ho, if_neg (by simp)], hs'⟩
theorem FuseInv.write {n i : Nat} {s : DS} (h : FuseInv n i s) (hn : n < 256) {x : Int} {d : List UInt8} (hx : 0 ≤ x ∧ x < 64) : ∃ s', s.write x d = (if i < n then 0 else 9, s') ∧ FuseInv n (i + 1) s' := by
  have hin : 0 ≤ x ∧ x < (s.secs.length : Int) := by rw [h.len]; exact hx
  by_cases hi : i < n
  · rw [if_pos hi]
    have ho := h.opYes hi hn
    refine ⟨{ s with pend := s.pend ++ [(x.toNat, d)], fuse := (n : Int) - (i + 1 : Nat) }, by unfold DS.write; rw [if_pos hin, ho, if_pos rfl, if_neg (by rw [show ({ s with fuse := (n : Int) - (i + 1 : Nat) } : DS).full = false from h.full]; simp)], h.len, h.full, h.lit, ?_, ?_, fun _ => ⟨(h.on (by omega)).1, rfl⟩, fun h => by omega⟩
    · show (s.pend ++ [_]).length ≤ _
      have := h.pend'
      simp; omega
    · show (s.pend ++ [_]).length ≤ _
      have := h.pend'
      simp; omega
  · rw [if_neg hi]
    obtain ⟨s', ho, hs'⟩ := h.opNo (by omega)
    exact ⟨s', by unfold DS.write; rw [if_pos hin, ho, if_neg (by simp)], hs'⟩
theorem FuseInv.down {n i : Nat} {s : DS} (h : FuseInv n (i + 1) s) : s.down = decide (n ≤ i) := by
  by_cases hi : n ≤ i
  · rw [decide_eq_true hi]; exact h.off (by omega)
  · rw [decide_eq_false hi]; exact (h.on (by omega)).1
end Go.Proofs.Ytdggibigfocadaa
