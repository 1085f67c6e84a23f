/- What was synced stays through a crash, in plain words. No conditions. -/
import Derived.Test.YtdggibigfocadaaD14
namespace Go.Proofs.Ytdggibigfocadaa
open Go.RowKit
def secB (b : List UInt8) (i : Nat) : List UInt8 := if i < b.length then fillB (b.getD i 0) else zero64
theorem secB_length (b : List UInt8) (i : Nat) : (secB b i).length = 64 := by
  unfold secB
  split
  · exact fillB_length _
  · rfl
def secsB (b : List UInt8) (m : Nat) : List (List UInt8) := (List.range 64).map fun i => if i < m then secB b i else zero64
def pendB (b : List UInt8) (m : Nat) : List (Nat × List UInt8) := (List.range m).map fun i => (i, fillB (b.getD i 0))
theorem secsB_get (b : List UInt8) (m i : Nat) (hi : i < 64) : (secsB b m)[i]? = some (if i < m then secB b i else zero64) := by
  unfold secsB
  rw [List.getElem?_map, List.getElem?_range hi]
  rfl
theorem sync_secsB (b : List UInt8) : ∀ m, m ≤ 64 → m ≤ b.length → syncAll (DS.fresh 64).secs (pendB b m) = secsB b m := by
  intro m
  induction m with
  | zero =>
    intro _ _
    show List.replicate 64 zero64 = _
    apply List.ext_getElem?
    intro i
    by_cases hi : i < 64
    · rw [secsB_get _ _ _ hi, if_neg (Nat.not_lt_zero _), List.getElem?_replicate, if_pos hi]
    · rw [List.getElem?_eq_none (by rw [List.length_replicate]; omega), List.getElem?_eq_none (by simp [secsB]; omega)]
  | succ m ih =>
    intro h1 h2
    have h3 : pendB b (m + 1) = pendB b m ++ [(m, fillB (b.getD m 0))] := by simp [pendB, List.range_succ]
    have h4 : syncAll (DS.fresh 64).secs (pendB b (m + 1)) = (syncAll (DS.fresh 64).secs (pendB b m)).set m (fillB (b.getD m 0)) := by
      rw [h3]; unfold syncAll; rw [List.foldl_append]; rfl
    rw [h4, ih (by omega) (by omega)]
    apply List.ext_getElem?
    intro i
    by_cases hi : i < 64
    · by_cases him : i = m
      · subst him
        rw [List.getElem?_set_self (by simp [secsB]; omega), secsB_get _ _ _ hi, if_pos (by omega)]
        unfold secB
        rw [if_pos (by omega)]
      · rw [List.getElem?_set_ne (Ne.symm him), secsB_get _ _ _ hi, secsB_get _ _ _ hi]
        by_cases h : i < m
        · rw [if_pos h, if_pos (by omega)]
        · rw [if_neg h, if_neg (by omega)]
    · rw [List.getElem?_eq_none (by simp [secsB]; omega), List.getElem?_eq_none (by simp [secsB]; omega)]
structure Syn1 (b : List UInt8) (k : Nat) (s : DS) : Prop where
  secs : s.secs = (DS.fresh 64).secs
  full : s.full = false
  lit : s.lit = false
  down : s.down = false
  pend : s.pend = pendB b (min k 64)
theorem op_plain {s : DS} (hl : s.lit = false) (hd : s.down = false) : s.op = (true, { s with fuse := wrap64 (s.fuse - 1) }) := by
  unfold DS.op
  rw [if_neg (by rw [hd]; simp), if_neg (by rw [hl]; simp)]
theorem write_plain {s : DS} {n : Int} {d : List UInt8} (hn : 0 ≤ n ∧ n < (s.secs.length : Int)) (hf : s.full = false) (hl : s.lit = false) (hd : s.down = false) :
    s.write n d = (0, { s with pend := s.pend ++ [(n.toNat, d)], fuse := wrap64 (s.fuse - 1) }) := by
  rw [write_in hn (by rw [op_plain hl hd]) (by rw [op_plain hl hd]; exact hf), op_plain hl hd]
theorem Syn1.start (b : List UInt8) : Syn1 b 0 (DS.fresh 64) := ⟨rfl, rfl, rfl, rfl, rfl⟩
theorem Syn1.small {b : List UInt8} {k : Nat} {s : DS} (h : Syn1 b k s) : (s.pend.length + 1) * 72 ≤ 140737488355328 := by
  rw [h.pend]
  simp [pendB]
  omega
theorem Syn1.write {b : List UInt8} {k : Nat} {s : DS} {c : UInt8} (h : Syn1 b k s) (hk : k < 64) (hc : b[k]? = some c) : ∃ s', s.write (k : Int) (fillB c) = (0, s') ∧ Syn1 b (k + 1) s' := by
  have hl : s.secs.length = 64 := by rw [h.secs]; exact List.length_replicate
  refine ⟨_, write_plain (by rw [hl]; omega) h.full h.lit h.down, h.secs, h.full, h.lit, h.down, ?_⟩
  show s.pend ++ _ = _
  rw [h.pend, Nat.min_eq_left (Nat.le_of_lt hk), Nat.min_eq_left hk, Int.toNat_natCast]
  simp [pendB, List.range_succ, hc]
theorem Syn1.skip {b : List UInt8} {k : Nat} {s : DS} (h : Syn1 b k s) (hk : 64 ≤ k) : Syn1 b (k + 1) s :=
  ⟨h.secs, h.full, h.lit, h.down, by rw [h.pend, Nat.min_eq_right hk, Nat.min_eq_right (by omega)]⟩
structure Syn2 (b ov : List UInt8) (k : Nat) (s : DS) : Prop where
  secs : s.secs = secsB b (min b.length 64)
  full : s.full = false
  lit : s.lit = false
  down : s.down = false
  few : s.pend.length ≤ min k 64
  pend : ∀ p ∈ s.pend, ∃ i, i < ov.length ∧ i < 64 ∧ p = (63 - i, fillB (ov.getD i 0))
theorem Syn1.sync {b : List UInt8} {s : DS} (ov : List UInt8) (h : Syn1 b b.length s) : ∃ s', s.sync = (0, s') ∧ Syn2 b ov 0 s' := by
  refine ⟨{ s with secs := syncAll s.secs s.pend, pend := [], fuse := wrap64 (s.fuse - 1) }, by unfold DS.sync; rw [op_plain h.lit h.down, if_pos rfl], ?_, h.full, h.lit, h.down, Nat.zero_le _, fun p hp => by cases hp⟩
  show syncAll s.secs s.pend = _
  rw [h.secs, h.pend]
  exact sync_secsB b _ (Nat.min_le_right _ _) (Nat.min_le_left _ _)
theorem Syn2.small {b ov : List UInt8} {k : Nat} {s : DS} (h : Syn2 b ov k s) : (s.pend.length + 1) * 72 ≤ 140737488355328 := by
  have := h.few
  omega
theorem Syn2.len {b ov : List UInt8} {k : Nat} {s : DS} (h : Syn2 b ov k s) : s.secs.length = 64 := by rw [h.secs]; simp [secsB]
theorem Syn2.write {b ov : List UInt8} {k : Nat} {s : DS} {c : UInt8} (h : Syn2 b ov k s) (hk : k < 64) (hc : ov[k]? = some c) : ∃ s', s.write (63 - (k : Int)) (fillB c) = (0, s') ∧ Syn2 b ov (k + 1) s' := by
  refine ⟨_, write_plain (by rw [h.len]; omega) h.full h.lit h.down, h.secs, h.full, h.lit, h.down, ?_, ?_⟩
  · show (s.pend ++ [_]).length ≤ _
    have := h.few
    simp
    omega
  · intro p hp
    rcases List.mem_append.1 hp with hp | hp
    · exact h.pend p hp
    · have hlt : k < ov.length := by
        rcases Nat.lt_or_ge k ov.length with h' | h'
        · exact h'
        · rw [List.getElem?_eq_none h'] at hc; cases hc
      refine ⟨k, hlt, hk, ?_⟩
      rw [List.mem_singleton.1 hp, List.getD_eq_getElem?_getD, hc]
      simp only [Option.getD_some, Prod.mk.injEq, and_true]
      omega
theorem Syn2.skip {b ov : List UInt8} {k : Nat} {s : DS} (h : Syn2 b ov k s) (hk : 64 ≤ k) : Syn2 b ov (k + 1) s :=
  ⟨h.secs, h.full, h.lit, h.down, by have := h.few; omega, h.pend⟩
/-- Each byte of a sector is that of the old one, or that of a write that waited for it. -/
def Mixed (old : List (List UInt8)) (ps : List (Nat × List UInt8)) (l : List (List UInt8)) : Prop :=
  l.length = old.length ∧ ∀ j x, l[j]? = some x → x.length = 64 ∧ ∀ k, k < 64 → x[k]? = (old.getD j [])[k]? ∨ ∃ d, (j, d) ∈ ps ∧ x[k]? = d[k]?
theorem crash1_at (c : UInt8) (x d : List UInt8) (hx : x.length = 64) (hd : d.length = 64) : (crash1 c x d).length = 64 ∧ ∀ k, k < 64 → (crash1 c x d)[k]? = x[k]? ∨ (crash1 c x d)[k]? = d[k]? := by
  unfold crash1
  split
  · exact ⟨hd, fun k _ => .inr rfl⟩
  split
  · refine ⟨by simp [hx, hd], fun k hk => ?_⟩
    by_cases h : k < 32
    · rw [List.getElem?_append_left (by simp [hd]; omega), List.getElem?_take_of_lt h]; exact .inr rfl
    · rw [List.getElem?_append_right (by simp [hd]; omega), List.getElem?_drop]
      refine .inl ?_
      congr 1
      simp [hd]; omega
  split
  · refine ⟨by simp [hx, hd], fun k hk => ?_⟩
    by_cases h : k < 32
    · rw [List.getElem?_append_left (by simp [hx]; omega), List.getElem?_take_of_lt h]; exact .inl rfl
    · rw [List.getElem?_append_right (by simp [hx]; omega), List.getElem?_drop]
      refine .inr ?_
      congr 1
      simp [hx]; omega
  · exact ⟨hx, fun k _ => .inl rfl⟩
theorem crashAll_mixed (old : List (List UInt8)) (ps : List (Nat × List UInt8)) (hps : ∀ p ∈ ps, p.2.length = 64) : ∀ (qs : List ((Nat × List UInt8) × UInt8)) (l : List (List UInt8)), (∀ q ∈ qs, q.1 ∈ ps) → Mixed old ps l → Mixed old ps (crashAll l qs)
  | [], _, _, h => h
  | q :: qs, l, hq, h => by
    refine crashAll_mixed old ps hps qs _ (fun q' hq' => hq q' (by simp [hq'])) ⟨by rw [List.length_set]; exact h.1, fun j x hx => ?_⟩
    have hqm := hq q (by simp)
    by_cases hj : j = q.1.1
    · subst hj
      have hlt : q.1.1 < l.length := by
        rcases Nat.lt_or_ge q.1.1 l.length with h' | h'
        · exact h'
        · rw [List.getElem?_eq_none (by rw [List.length_set]; exact h')] at hx; cases hx
      rw [List.getElem?_set_self hlt] at hx
      obtain ⟨y, hy⟩ : ∃ y, l[q.1.1]? = some y := ⟨_, List.getElem?_eq_getElem hlt⟩
      have hgd : l.getD q.1.1 [] = y := by rw [List.getD_eq_getElem?_getD, hy]; rfl
      rw [hgd] at hx
      cases hx
      obtain ⟨h1, h2⟩ := h.2 _ y hy
      obtain ⟨h3, h4⟩ := crash1_at q.2 y q.1.2 h1 (hps _ hqm)
      refine ⟨h3, fun k hk => ?_⟩
      rcases h4 k hk with e | e
      · rw [e]; exact h2 k hk
      · rw [e]; exact .inr ⟨q.1.2, hqm, rfl⟩
    · rw [List.getElem?_set_ne (Ne.symm hj)] at hx
      exact h.2 j x hx
/-- The disk behind the crash. -/
structure Syn3 (b ov : List UInt8) (s : DS) : Prop where
  len : s.secs.length = 64
  down : s.down = false
  pend : s.pend = []
  same : ∀ j x, s.secs[j]? = some x → ov.length ≤ 63 - j → x = secB b j
  mixed : ∀ j x, s.secs[j]? = some x → x.length = 64 ∧ ∀ k, k < 64 → x[k]? = (secB b j)[k]? ∨ x[k]? = (fillB (ov.getD (63 - j) 0))[k]?
theorem Syn2.restart {b ov : List UInt8} {s : DS} (h : Syn2 b ov ov.length s) (ch : List UInt8) : Syn3 b ov (s.restart ch) := by
  have hm0 : Mixed s.secs s.pend s.secs := by
    refine ⟨rfl, fun j x hx => ⟨?_, fun k _ => .inl ?_⟩⟩
    · rw [h.secs] at hx
      have hj : j < 64 := by
        rcases Nat.lt_or_ge j 64 with h' | h'
        · exact h'
        · rw [List.getElem?_eq_none (by simp [secsB]; omega)] at hx; cases hx
      rw [secsB_get _ _ _ hj] at hx
      cases hx
      split
      · exact secB_length _ _
      · rfl
    · rw [List.getD_eq_getElem?_getD, hx]; rfl
  have hm := crashAll_mixed s.secs s.pend (fun p hp => by obtain ⟨i, _, _, rfl⟩ := h.pend p hp; exact fillB_length _) (s.pend.zip ch) s.secs (fun q hq => (List.of_mem_zip hq).1) hm0
  have hold : ∀ j, j < 64 → s.secs.getD j [] = secB b j := by
    intro j hj
    rw [List.getD_eq_getElem?_getD, h.secs, secsB_get _ _ _ hj]
    simp only [Option.getD_some]
    by_cases hb : j < b.length
    · rw [if_pos (by omega)]
    · rw [if_neg (by omega)]
      unfold secB
      rw [if_neg hb]
  have hlt : ∀ j x, (s.restart ch).secs[j]? = some x → j < 64 := by
    intro j x hx
    rcases Nat.lt_or_ge j 64 with h' | h'
    · exact h'
    · rw [List.getElem?_eq_none (by show (crashAll s.secs (s.pend.zip ch)).length ≤ j; rw [hm.1, h.len]; exact h')] at hx; cases hx
  refine ⟨hm.1.trans h.len, rfl, rfl, fun j x hx hj => ?_, fun j x hx => ⟨(hm.2 j x hx).1, fun k hk => ?_⟩⟩
  · have h1 := hm.2 j x hx
    have h64 := hlt j x hx
    apply List.ext_getElem?
    intro k
    by_cases hk : k < 64
    · rcases h1.2 k hk with e | ⟨d, hd, e⟩
      · rw [e, hold j h64]
      · obtain ⟨i, hi1, hi2, he⟩ := h.pend _ hd
        have := congrArg Prod.fst he
        simp at this
        omega
    · rw [List.getElem?_eq_none (by rw [h1.1]; omega), List.getElem?_eq_none (by rw [secB_length]; omega)]
  · have h64 := hlt j x hx
    rcases (hm.2 j x hx).2 k hk with e | ⟨d, hd, e⟩
    · rw [e, hold j h64]; exact .inl rfl
    · obtain ⟨i, hi1, hi2, he⟩ := h.pend _ hd
      have hj : 63 - j = i := by
        have := congrArg Prod.fst he
        simp at this
        omega
      have hd' : d = fillB (ov.getD i 0) := congrArg Prod.snd he
      rw [e, hd', hj]
      exact .inr rfl
theorem Syn3.read {b ov : List UInt8} {s : DS} (h : Syn3 b ov s) {j : Nat} (hj : j < 64) : ∃ x, s.secs[j]? = some x ∧ s.read (j : Int) = (x, 0) := by
  obtain ⟨x, hx⟩ : ∃ x, s.secs[j]? = some x := ⟨_, List.getElem?_eq_getElem (by rw [h.len]; exact hj)⟩
  refine ⟨x, hx, ?_⟩
  unfold DS.read DS.peek
  rw [if_pos (by rw [h.len]; omega), if_neg (by rw [h.down]; simp), h.pend, Int.toNat_natCast, List.getD_eq_getElem?_getD, hx]
  rfl
end Go.Proofs.Ytdggibigfocadaa
