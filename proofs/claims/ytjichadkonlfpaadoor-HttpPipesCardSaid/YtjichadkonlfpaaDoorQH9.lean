/- The texts H9 of this work, merged by wip/merge.py. No conditions. -/
import Derived.Test.YtjichadkonlfpaaDoorQH45
import Derived.Test.YtjichadkonlfpaaDoorQH78
namespace Go.Proofs.YtjichadkonlfpaaDoor
open Go.RowKit
def start1 (s : PS) (c : UInt8) : PS := if s.st = 0 ∧ c ≠ 13 then { s with st := 2 } else s
def head1 (r : PS × Int) : PS × Int :=
  if r.2 ≠ 0 then r
  else if 2048 < r.1.hd + 1 then ({ r.1 with hd := r.1.hd + 1 }, 431)
  else if r.1.st = 9 then wholeP { r.1 with hd := r.1.hd + 1 } else ({ r.1 with hd := r.1.hd + 1 }, 0)
def take1P (s : PS) (c : UInt8) : PS × Int :=
  if 2 ≤ (start1 s c).st ∧ (start1 s c).st ≤ 8 then head1 (inHeadP (start1 s c) c) else inBodyP (start1 s c) c
structure Req where
  m : List UInt8
  t : List UInt8
  hs : List (List UInt8 × List UInt8)
  bd : List UInt8
  cl : Bool
def reqOf (s : PS) : Req := ⟨s.m, s.t, s.hs, s.bd, s.cl⟩
def zeroP (en : Bool) : PS := { st := 0, en := en, hd := 0, wd := [], m := [], t := [], hs := [], bd := [], cl := false, old := false, lf := 0 }
def feedP : PS → List UInt8 → PS × List Req × Int
  | s, [] => (s, [], 0)
  | s, c :: cs =>
    if (take1P s c).2 ≠ 0 then ({ (take1P s c).1 with en := true }, [], (take1P s c).2)
    else if (take1P s c).1.st = 9 ∧ (take1P s c).1.lf = 0 then
      if (take1P s c).1.cl then (zeroP true, [reqOf (take1P s c).1], 0)
      else ((feedP (zeroP false) cs).1, reqOf (take1P s c).1 :: (feedP (zeroP false) cs).2.1, (feedP (zeroP false) cs).2.2)
    else feedP (take1P s c).1 cs
/-- What holds of a parser between two bytes. -/
structure Ok (s : PS) : Prop where
  st0 : 0 ≤ s.st
  st1 : s.st ≤ 14
  hd0 : 0 ≤ s.hd
  hd1 : s.hd ≤ 2048
  wa : ∀ b ∈ s.wd, b.toNat < 128
  wh : (2 ≤ s.st ∧ s.st ≤ 8) → (s.wd.length : Int) ≤ s.hd
  w10 : s.st = 10 → s.wd.length ≤ 6 ∧ ∀ b ∈ s.wd, hexB b = true
  w9 : (s.st < 2 ∨ 8 ≤ s.st) → s.st ≠ 10 → s.wd = []
  hl : (s.hs.length : Int) ≤ s.hd
  hv : ∀ p ∈ s.hs, p.2.length ≤ 2048 ∧ ∀ b ∈ p.2, b.toNat < 128
  h7 : s.st = 7 → s.hs ≠ []
  l0 : -1 ≤ s.lf
  l1 : s.lf ≤ 16777216
  l8 : s.st ≤ 8 → s.lf = 0
  lb : s.st = 9 ∨ s.st = 12 → 0 ≤ s.lf ∧ (s.bd.length : Int) + s.lf ≤ 4096
  l12 : s.st = 12 → 1 ≤ s.lf
  l11 : s.st = 11 → 0 ≤ s.lf
  bd : s.bd.length ≤ 4096
  b8 : s.st ≤ 8 → s.bd = []
theorem Ok.wl {s : PS} (h : Ok s) : s.wd.length ≤ 2048 := by
  have h1 := h.hd1
  by_cases h2 : 2 ≤ s.st ∧ s.st ≤ 8
  · have := h.wh h2; omega
  · by_cases h3 : s.st = 10
    · have := (h.w10 h3).1; omega
    · rw [h.w9 (by omega) h3]; simp
theorem ok_zero (en : Bool) : Ok (zeroP en) := by
  constructor <;> simp [zeroP]
theorem start1_cases (s : PS) (c : UInt8) : (s.st = 0 ∧ c ≠ 13 ∧ start1 s c = { s with st := 2 }) ∨ (¬ (s.st = 0 ∧ c ≠ 13) ∧ start1 s c = s) := by
  by_cases h : s.st = 0 ∧ c ≠ 13
  · exact .inl ⟨h.1, h.2, if_pos h⟩
  · exact .inr ⟨h, if_neg h⟩
theorem Ok.start {s : PS} (h : Ok s) (c : UInt8) : Ok (start1 s c) := by
  rcases start1_cases s c with ⟨h1, _, h2⟩ | ⟨_, h2⟩
  · rw [h2]
    have hw := h.w9 (by omega) (by omega)
    have h0 := h.hd0
    exact ⟨by simp, by simp, h.hd0, h.hd1, h.wa, fun _ => by show (s.wd.length : Int) ≤ s.hd; rw [hw]; simpa using h0, fun h3 => absurd h3 (by simp), fun h3 => absurd h3 (by simp), h.hl, h.hv, fun h3 => absurd h3 (by simp), h.l0, h.l1, fun _ => h.l8 (by omega), fun h3 => absurd h3 (by simp), fun h3 => absurd h3 (by simp), fun h3 => absurd h3 (by simp), h.bd, fun _ => h.b8 (by omega)⟩
  · rw [h2]; exact h
theorem trimS_sub (v cs : List UInt8) : ∀ b ∈ Lib.trimS v cs, b ∈ v := by
  intro b hb
  unfold Lib.trimS Lib.trimLeftS at hb
  have h1 := (List.dropWhile_suffix _).subset hb
  unfold Lib.trimRightS at h1
  have h2 := (List.dropWhile_suffix _).subset (List.mem_reverse.1 h1)
  simpa using h2
theorem trimS_len (v cs : List UInt8) : (Lib.trimS v cs).length ≤ v.length := by
  have h1 := (List.dropWhile_suffix (cs.contains ·) (l := Lib.trimRightS v cs)).length_le
  have h2 := (List.dropWhile_suffix (cs.contains ·) (l := v.reverse)).length_le
  unfold Lib.trimS Lib.trimLeftS
  unfold Lib.trimRightS at h1 ⊢
  simp only [List.length_reverse] at h1 h2 ⊢
  omega
/-- A head's step that answers 0: what it leaves. -/
structure Hk (s : PS) (r : PS) : Prop where
  st0 : 2 ≤ r.st
  st1 : r.st ≤ 9
  hd : r.hd = s.hd
  wa : ∀ b ∈ r.wd, b.toNat < 128
  wl : r.st ≤ 8 → r.wd.length ≤ s.wd.length + 1
  w9 : 8 ≤ r.st → r.wd = []
  hl : r.hs.length ≤ s.hs.length + 1
  hv : ∀ p ∈ r.hs, p.2.length ≤ 2048 ∧ ∀ b ∈ p.2, b.toNat < 128
  h7 : r.st = 7 → r.hs ≠ []
  lf : r.lf = 0
  bd : r.bd = []
theorem takeP_ok {s : PS} {c : UInt8} {fits : Bool} (h : (takeP s c fits).2 = 0) : fits = true ∧ (takeP s c fits).1 = { s with wd := s.wd ++ [c] } := by
  cases fits
  · simp [takeP] at h
  · exact ⟨rfl, rfl⟩
theorem low_lt {c : UInt8} (h : lowI c ≤ 122) (h2 : 97 ≤ lowI c) : c.toNat < 128 := by
  have : ∀ n : Fin 256, ((bits .or .u8 (n.val : Int) 32 ≤ 122 ∧ 97 ≤ bits .or .u8 (n.val : Int) 32) → n.val < 128) := by decide +kernel
  exact this ⟨c.toNat, c.toNat_lt⟩ ⟨h, h2⟩
theorem letter_lt {c : UInt8} (h : letterB c = true) : c.toNat < 128 := by
  simp only [letterB, Bool.and_eq_true, decide_eq_true_eq] at h
  exact low_lt h.2 h.1
theorem digit_lt {c : UInt8} (h : digitB c = true) : c.toNat < 128 := by
  simp only [digitB, Bool.and_eq_true, decide_eq_true_eq] at h
  omega
theorem hex_lt {c : UInt8} (h : hexB c = true) : c.toNat < 128 := by
  simp only [hexB, Bool.or_eq_true, Bool.and_eq_true, decide_eq_true_eq] at h
  rcases h with h | h
  · exact digit_lt h
  · exact letter_lt h.1
theorem httpW_lt : ∀ n : Nat, (httpW.getD n 0).toNat < 128 := by
  intro n
  by_cases h : n < 7
  · have : ∀ n : Fin 7, (httpW.getD n.val 0).toNat < 128 := by decide
    exact this ⟨n, h⟩
  · rw [List.getD_eq_getElem?_getD, List.getElem?_eq_none (by simp [httpW]; omega)]; decide
theorem hk_take {s : PS} {c : UInt8} {fits : Bool} (h : Ok s) (h2 : 2 ≤ s.st) (h8 : s.st ≤ 7) (hc : fits = true → c.toNat < 128) (h0 : (takeP s c fits).2 = 0) : Hk s (takeP s c fits).1 := by
  obtain ⟨hf, he⟩ := takeP_ok h0
  rw [he]
  refine ⟨h2, by simp only; omega, rfl, ?_, fun _ => by simp, fun h9 => by simp only at h9; omega, by simp, h.hv, h.h7, h.l8 (by omega), h.b8 (by omega)⟩
  intro b hb
  simp only [List.mem_append, List.mem_singleton] at hb
  rcases hb with hb | rfl
  · exact h.wa b hb
  · exact hc hf
theorem setLast_mem {hs : List (List UInt8 × List UInt8)} {v : List UInt8} : ∀ p ∈ setLast hs v, p ∈ hs ∨ p.2 = v := by
  intro p hp
  unfold setLast at hp
  cases h : hs.getLast? with
  | none => rw [h] at hp; exact .inl hp
  | some q =>
    rw [h] at hp
    simp only [List.mem_append, List.mem_singleton] at hp
    rcases hp with hp | rfl
    · exact .inl (List.dropLast_subset _ hp)
    · exact .inr rfl
theorem setLast_length (hs : List (List UInt8 × List UInt8)) (v : List UInt8) : (setLast hs v).length = hs.length := by
  unfold setLast
  cases h : hs.getLast? with
  | none => rfl
  | some q =>
    have : hs ≠ [] := by intro h2; rw [h2] at h; simp at h
    have := List.length_pos_iff.2 this
    simp; omega
theorem hk_head {s : PS} {c : UInt8} (h : Ok s) (h2 : 2 ≤ s.st) (h8 : s.st ≤ 8) (h0 : (inHeadP s c).2 = 0) : Hk s (inHeadP s c).1 := by
  have hlf := h.l8 h8
  have hbd := h.b8 h8
  have hwl := h.wl
  unfold inHeadP at h0 ⊢
  by_cases e2 : s.st = 2
  · rw [if_pos e2] at h0 ⊢
    unfold head2 at h0 ⊢
    split at h0
    · rename_i hc
      rw [if_pos hc]
      exact ⟨by simp, by simp, rfl, by simp, fun _ => by simp, fun h9 => absurd h9 (by simp), by simp, h.hv, fun h9 => absurd h9 (by simp), hlf, hbd⟩
    · rename_i hc
      rw [if_neg hc]
      refine hk_take h h2 (by omega) (fun hf => ?_) h0
      simp at hf; omega
  rw [if_neg e2] at h0 ⊢
  by_cases e3 : s.st = 3
  · rw [if_pos e3] at h0 ⊢
    unfold head3 at h0 ⊢
    split at h0
    · rename_i hc
      rw [if_pos hc]
      exact ⟨by simp, by simp, rfl, by simp, fun _ => by simp, fun h9 => absurd h9 (by simp), by simp, h.hv, fun h9 => absurd h9 (by simp), hlf, hbd⟩
    · rename_i hc
      rw [if_neg hc]
      refine hk_take h h2 (by omega) (fun hf => ?_) h0
      simp at hf; omega
  rw [if_neg e3] at h0 ⊢
  by_cases e4 : s.st = 4
  · rw [if_pos e4] at h0 ⊢
    unfold head4 at h0 ⊢
    split at h0
    · rename_i hc
      rw [if_pos hc]
      refine hk_take h h2 (by omega) (fun hf => ?_) h0
      have := httpW_lt s.wd.length
      simp only [eqI, beq_iff_eq] at hf
      omega
    · rename_i hc
      rw [if_neg hc]
      split at h0
      · rename_i hc2
        rw [if_pos hc2]
        have hx : Ok { s with old := ((c.toNat : Int) == 48) } := ⟨h.st0, h.st1, h.hd0, h.hd1, h.wa, h.wh, h.w10, h.w9, h.hl, h.hv, h.h7, h.l0, h.l1, h.l8, h.lb, h.l12, h.l11, h.bd, h.b8⟩
        have := hk_take hx h2 (by simp only; omega) (fun hf => by simp at hf; omega) h0
        exact ⟨this.st0, this.st1, this.hd, this.wa, this.wl, this.w9, this.hl, this.hv, this.h7, this.lf, this.bd⟩
      · rename_i hc2
        rw [if_neg hc2]
        split at h0
        · simp at h0
        · rename_i hc3
          rw [if_neg hc3]
          exact ⟨by simp [doneP], by simp [doneP], rfl, by simp [doneP], fun _ => by simp [doneP], fun h9 => absurd h9 (by simp [doneP]), by simp [doneP], h.hv, fun h9 => absurd h9 (by simp [doneP]), hlf, hbd⟩
  rw [if_neg e4] at h0 ⊢
  by_cases e5 : s.st = 5
  · rw [if_pos e5] at h0 ⊢
    unfold head5 at h0 ⊢
    split at h0
    · simp at h0
    · rename_i hc
      rw [if_neg hc]
      exact ⟨by simp, by simp, rfl, h.wa, fun _ => by simp, fun h9 => absurd h9 (by simp), by simp, h.hv, fun h9 => absurd h9 (by simp), hlf, hbd⟩
  rw [if_neg e5] at h0 ⊢
  by_cases e6 : s.st = 6
  · rw [if_pos e6] at h0 ⊢
    unfold head6 at h0 ⊢
    split at h0
    · rename_i hc
      rw [if_pos hc]
      have hw : s.wd = [] := by
        simp only [Bool.and_eq_true, beq_iff_eq] at hc
        exact List.eq_nil_of_length_eq_zero (by omega)
      exact ⟨by simp, by simp, rfl, h.wa, fun _ => by simp, fun _ => hw, by simp, h.hv, fun h9 => absurd h9 (by simp), hlf, hbd⟩
    · rename_i hc
      rw [if_neg hc]
      split at h0
      · rename_i hc2
        rw [if_pos hc2]
        refine ⟨by simp, by simp, rfl, by simp, fun _ => by simp, fun h9 => absurd h9 (by simp), by simp, ?_, fun _ => by simp, hlf, hbd⟩
        intro p hp
        simp only [List.mem_append, List.mem_singleton] at hp
        rcases hp with hp | rfl
        · exact h.hv p hp
        · simp
      · rename_i hc2
        rw [if_neg hc2]
        refine hk_take h h2 (by omega) (fun hf => ?_) h0
        simp only [Bool.or_eq_true, beq_iff_eq] at hf
        rcases hf with (hf | hf) | hf
        · exact letter_lt hf
        · exact digit_lt hf
        · omega
  rw [if_neg e6] at h0 ⊢
  by_cases e7 : s.st = 7
  · rw [if_pos e7] at h0 ⊢
    unfold head7 at h0 ⊢
    split at h0
    · rename_i hc
      rw [if_pos hc]
      refine hk_take h h2 (by omega) (fun hf => ?_) h0
      simp at hf; omega
    · rename_i hc
      rw [if_neg hc]
      refine ⟨by simp, by simp, rfl, by simp, fun _ => by simp, fun h9 => absurd h9 (by simp), by simp [setLast_length], ?_, fun h9 => absurd h9 (by simp), hlf, hbd⟩
      intro p hp
      rcases setLast_mem p hp with hp | hp
      · exact h.hv p hp
      · rw [hp]
        exact ⟨Nat.le_trans (trimS_len _ _) hwl, fun b hb => h.wa b (trimS_sub _ _ b hb)⟩
  rw [if_neg e7] at h0 ⊢
  have e8 : s.st = 8 := by omega
  rw [if_pos e8] at h0 ⊢
  unfold head8 at h0 ⊢
  split at h0
  · simp at h0
  · rename_i hc
    rw [if_neg hc]
    have hw := h.w9 (.inr (by omega)) (by omega)
    exact ⟨by simp, by simp, rfl, h.wa, fun _ => by simp, fun _ => hw, by simp, h.hv, fun h9 => absurd h9 (by simp), hlf, hbd⟩
theorem whole_ok {s : PS} (h : Ok s) (h9 : s.st = 9) (hl : s.lf = 0) (hb : s.bd = []) (h0 : (wholeP s).2 = 0) : Ok (wholeP s).1 := by
  have hw := h.w9 (.inr (by omega)) (by omega)
  have base : ∀ (cl : Bool) (st lf : Int), (st = 9 ∨ st = 10) → 0 ≤ lf → lf ≤ 4096 → Ok { s with cl := cl, st := st, lf := lf } := by
    intro cl st lf h1 h2 h3
    refine ⟨by simp only; omega, by simp only; omega, h.hd0, h.hd1, h.wa, fun h4 => by simp only at h4; omega, fun _ => by rw [show ({ s with cl := cl, st := st, lf := lf } : PS).wd = s.wd from rfl, hw]; simp, fun _ _ => hw, h.hl, h.hv, fun h4 => by simp only at h4; omega, by simp only; omega, by simp only; omega, fun h4 => by simp only at h4; omega, fun _ => ⟨h2, ?_⟩, fun h4 => by simp only at h4; omega, fun h4 => by simp only at h4; omega, h.bd, fun h4 => by simp only at h4; omega⟩
    simp only [hb, List.length_nil]
    omega
  unfold wholeP at h0 ⊢
  split at h0
  · simp at h0
  rename_i hn
  rw [if_neg hn]
  unfold wholeT at h0 ⊢
  split at h0
  · split at h0
    · rename_i hc
      rw [if_pos hc]
      have := base (wholeC s) 10 s.lf (.inr rfl) (by omega) (by omega)
      exact this
    · simp at h0
  · split at h0
    · simp at h0
    · rename_i hc
      rw [if_neg hc]
      split at h0
      · simp at h0
      · rename_i hc2
        rw [if_neg hc2]
        refine base (wholeC s) s.st _ (.inl h9) (Int.natCast_nonneg _) ?_
        omega
  · exact base (wholeC s) s.st s.lf (.inl h9) (by omega) (by omega)
theorem hexN_le : ∀ (v : List UInt8), (∀ c ∈ v, hexB c = true) → ∀ n : Nat, v.foldl (fun n c => n * 16 + hexV c) n < (n + 1) * 16 ^ v.length
  | [], _, n => by simp
  | c :: v, h, n => by
    have h1 := hexN_le v (fun x hx => h x (by simp [hx])) (n * 16 + hexV c)
    have h2 : hexV c < 16 := by
      have hc := h c (by simp)
      unfold hexV
      simp only [hexB, Bool.or_eq_true, Bool.and_eq_true, decide_eq_true_eq] at hc
      cases hd : digitB c with
      | true =>
        simp only [digitB, Bool.and_eq_true, decide_eq_true_eq] at hd
        simp only [if_pos]; omega
      | false =>
        rw [hd] at hc
        simp only [Bool.false_eq_true, false_or] at hc
        simp only [Bool.false_eq_true, if_false]; omega
    rw [List.foldl_cons, List.length_cons, Nat.pow_succ]
    refine Nat.lt_of_lt_of_le h1 ?_
    calc (n * 16 + hexV c + 1) * 16 ^ v.length ≤ (n + 1) * 16 * 16 ^ v.length := Nat.mul_le_mul_right _ (by omega)
      _ = _ := by rw [Nat.mul_assoc, Nat.mul_comm 16]
/-- The same but for the state, the place and the body. -/
theorem Ok.to {s : PS} (h : Ok s) (st lf : Int) (bd : List UInt8) (hs : st = 0 ∨ st = 1 ∨ 9 ≤ st ∧ st ≤ 14) (hw : s.wd = []) (l0 : -1 ≤ lf) (l1 : lf ≤ 16777216) (l8 : st ≤ 8 → lf = 0) (lb : st = 9 ∨ st = 12 → 0 ≤ lf ∧ (bd.length : Int) + lf ≤ 4096) (l12 : st = 12 → 1 ≤ lf) (l11 : st = 11 → 0 ≤ lf)
    (hb : bd.length ≤ 4096) (b8 : st ≤ 8 → bd = []) : Ok { s with st := st, lf := lf, bd := bd } := by
  have h0 := h.hd0
  refine ⟨by simp only; omega, by simp only; omega, h.hd0, h.hd1, h.wa, fun h4 => by simp only at h4; omega, fun _ => ?_, fun _ _ => hw, h.hl, h.hv, fun h4 => by simp only at h4; omega, l0, l1, l8, lb, l12, l11, hb, b8⟩
  rw [show ({ s with st := st, lf := lf, bd := bd } : PS).wd = s.wd from rfl, hw]
  simp
theorem expectP_ok {s : PS} {c want : UInt8} {st : Int} (h : (expectP s c want st).2 = 0) : (expectP s c want st).1 = { s with st := st } := by
  unfold expectP at h ⊢
  split at h
  · rename_i hc
    rw [if_pos hc]
  · simp at h
theorem body_ok {s : PS} {c : UInt8} (h : Ok s) (hst : s.st < 2 ∨ 8 < s.st) (hn : ¬ (s.st = 9 ∧ s.lf = 0)) (h0 : (inBodyP s c).2 = 0) : Ok (inBodyP s c).1 := by
  have hs0 := h.st0
  have hs1 := h.st1
  have hl0 := h.l0
  have hl1 := h.l1
  have hbd := h.bd
  unfold inBodyP at h0 ⊢
  by_cases e0 : s.st = 0
  · rw [if_pos e0]
    have := h.to 1 s.lf s.bd (by omega) (h.w9 (by omega) (by omega)) hl0 hl1 (fun _ => h.l8 (by omega)) (fun h3 => by omega) (fun h3 => by omega) (fun h3 => by omega) hbd (fun _ => h.b8 (by omega))
    exact this
  rw [if_neg e0] at h0 ⊢
  by_cases e1 : s.st = 1
  · rw [if_pos e1] at h0 ⊢
    rw [expectP_ok h0]
    have := h.to 0 s.lf s.bd (by omega) (h.w9 (by omega) (by omega)) hl0 hl1 (fun _ => h.l8 (by omega)) (fun h3 => by omega) (fun h3 => by omega) (fun h3 => by omega) hbd (fun _ => h.b8 (by omega))
    exact this
  rw [if_neg e1] at h0 ⊢
  by_cases e9 : s.st = 9 ∨ s.st = 12
  · rw [if_pos e9] at h0 ⊢
    have hw := h.w9 (by omega) (by omega)
    have hlb := h.lb e9
    have hl : 1 ≤ s.lf := by
      rcases e9 with e9 | e9
      · have : ¬ s.lf = 0 := fun h3 => hn ⟨e9, h3⟩
        omega
      · exact h.l12 e9
    unfold body9
    by_cases hc : s.lf - 1 = 0 ∧ s.st = 12
    · rw [if_pos hc]
      have := h.to 13 (s.lf - 1) (s.bd ++ [c]) (by omega) hw (by omega) (by omega) (fun h3 => by omega) (fun h3 => by omega) (fun h3 => by omega) (fun h3 => by omega) (by simp; omega) (fun h3 => by omega)
      exact this
    · rw [if_neg hc]
      have := h.to s.st (s.lf - 1) (s.bd ++ [c]) (by omega) hw (by omega) (by omega) (fun h3 => by omega) (fun h3 => ⟨by omega, by simp; omega⟩) (fun h3 => by omega) (fun h3 => by omega) (by simp; omega) (fun h3 => by omega)
      exact this
  rw [if_neg e9] at h0 ⊢
  by_cases e10 : s.st = 10
  · rw [if_pos e10] at h0 ⊢
    obtain ⟨hw6, hwx⟩ := h.w10 e10
    unfold body10 at h0 ⊢
    split at h0
    · rename_i hc
      rw [if_pos hc]
      have hx := hexN_le s.wd hwx 0
      have h16 : 16 ^ s.wd.length ≤ 16 ^ 6 := Nat.pow_le_pow_right (by decide) hw6
      have hlt : hexN s.wd < 16777216 := by
        refine Nat.lt_of_lt_of_le hx ?_
        omega
      exact ⟨by simp, by simp, h.hd0, h.hd1, by simp, fun h4 => by simp only at h4; omega, fun h4 => by simp only at h4; omega, fun _ _ => rfl, h.hl, h.hv, fun h4 => by simp only at h4; omega, by simp only; omega, by simp only; omega, fun h4 => by simp only at h4; omega, fun h4 => by simp only at h4; omega, fun h4 => by simp only at h4; omega, fun _ => Int.natCast_nonneg _, hbd, fun h4 => by simp only at h4; omega⟩
    · rename_i hc
      rw [if_neg hc]
      obtain ⟨hf, he⟩ := takeP_ok h0
      rw [he]
      simp only [Bool.and_eq_true, decide_eq_true_eq] at hf
      refine ⟨h.st0, h.st1, h.hd0, h.hd1, ?_, fun h4 => by simp only at h4; omega, fun _ => ⟨?_, ?_⟩, fun h3 h4 => absurd e10 h4, h.hl, h.hv, h.h7, hl0, hl1, h.l8, h.lb, h.l12, h.l11, hbd, h.b8⟩
      · intro b hb
        simp only [List.mem_append, List.mem_singleton] at hb
        rcases hb with hb | rfl
        · exact h.wa b hb
        · exact hex_lt hf.1
      · simp; omega
      · intro b hb
        simp only [List.mem_append, List.mem_singleton] at hb
        rcases hb with hb | rfl
        · exact hwx b hb
        · exact hf.1
  rw [if_neg e10] at h0 ⊢
  have hw := h.w9 (by omega) e10
  by_cases e11 : s.st = 11
  · rw [if_pos e11] at h0 ⊢
    have h11 := h.l11 e11
    unfold body11 at h0 ⊢
    split at h0
    · simp at h0
    rename_i hc
    rw [if_neg hc]
    split at h0
    · simp at h0
    rename_i hc2
    rw [if_neg hc2]
    simp only [decide_eq_true_eq] at hc2
    split at h0
    · rename_i hc3
      rw [if_pos hc3]
      have := h.to 13 (-1) s.bd (by omega) hw (by omega) (by omega) (fun h3 => by omega) (fun h3 => by omega) (fun h3 => by omega) (fun h3 => by omega) hbd (fun h3 => by omega)
      exact this
    · rename_i hc3
      rw [if_neg hc3]
      simp only [beq_iff_eq] at hc3
      have := h.to 12 s.lf s.bd (by omega) hw (by omega) (by omega) (fun h3 => by omega) (fun h3 => ⟨by omega, by omega⟩) (fun h3 => by omega) (fun h3 => by omega) hbd (fun h3 => by omega)
      exact this
  rw [if_neg e11] at h0 ⊢
  by_cases e13 : s.st = 13
  · rw [if_pos e13] at h0 ⊢
    rw [expectP_ok h0]
    have := h.to 14 s.lf s.bd (by omega) hw hl0 hl1 (fun h3 => by omega) (fun h3 => by omega) (fun h3 => by omega) (fun h3 => by omega) hbd (fun h3 => by omega)
    exact this
  rw [if_neg e13] at h0 ⊢
  have e14 : s.st = 14 := by omega
  rw [if_pos e14] at h0 ⊢
  unfold body14 at h0 ⊢
  rw [expectP_ok h0]
  by_cases hc : s.lf < 0
  · rw [if_pos hc]
    have := h.to 9 0 s.bd (by omega) hw (by omega) (by omega) (fun h3 => by omega) (fun h3 => ⟨by omega, by omega⟩) (fun h3 => by omega) (fun h3 => by omega) hbd (fun h3 => by omega)
    exact this
  · rw [if_neg hc]
    have := h.to 10 0 s.bd (by omega) hw (by omega) (by omega) (fun h3 => by omega) (fun h3 => by omega) (fun h3 => by omega) (fun h3 => by omega) hbd (fun h3 => by omega)
    exact this
/-- One byte: what holds between two bytes holds again. -/
theorem take1_ok {s : PS} {c : UInt8} (h : Ok s) (hn : ¬ (s.st = 9 ∧ s.lf = 0)) (h0 : (take1P s c).2 = 0) : Ok (take1P s c).1 := by
  have h1 := h.start c
  have hn1 : ¬ ((start1 s c).st = 9 ∧ (start1 s c).lf = 0) := by
    rcases start1_cases s c with ⟨_, _, e⟩ | ⟨_, e⟩
    · rw [e]; simp
    · rw [e]; exact hn
  unfold take1P at h0 ⊢
  obtain ⟨t, ht⟩ : ∃ t, t = start1 s c := ⟨_, rfl⟩
  rw [← ht] at h0 h1 hn1 ⊢
  by_cases hc : 2 ≤ t.st ∧ t.st ≤ 8
  · rw [if_pos hc] at h0 ⊢
    unfold head1 at h0 ⊢
    by_cases hz : (inHeadP t c).2 = 0
    case neg => rw [if_pos hz] at h0; exact absurd h0 hz
    rw [if_neg (by simpa using hz)] at h0 ⊢
    have k := hk_head h1 hc.1 hc.2 hz
    obtain ⟨r, hr⟩ : ∃ r, r = (inHeadP t c).1 := ⟨_, rfl⟩
    rw [← hr] at h0 k ⊢
    have hh := k.hd
    have b0 := h1.hd0
    have hwh := h1.wh hc
    have hhl := h1.hl
    split at h0
    · simp at h0
    rename_i hg
    rw [if_neg hg]
    have kl := k.hl
    have kf := k.lf
    have kb := k.bd
    have k0 := k.st0
    have k1 := k.st1
    have ok : Ok { r with hd := r.hd + 1 } := by
      refine ⟨by simp only; omega, by simp only; omega, by simp only; omega, by simp only; omega, k.wa, fun h4 => ?_, fun h4 => by simp only at h4; omega, fun h4 _ => k.w9 (by simp only at h4; omega), by simp only; omega, k.hv, k.h7, by simp only; omega, by simp only; omega, fun _ => kf, fun h4 => ⟨by simp only; omega, ?_⟩, fun h4 => by simp only at h4; omega, fun h4 => by simp only at h4; omega, ?_, fun _ => kb⟩
      · have := k.wl h4.2
        simp only
        omega
      · simp only [kb, kf]; simp
      · simp only [kb]; simp
    split at h0
    · rename_i h9
      rw [if_pos h9]
      exact whole_ok ok h9 kf kb h0
    · rename_i h9
      rw [if_neg h9]
      exact ok
  · rw [if_neg hc] at h0 ⊢
    exact body_ok h1 (by omega) hn1 h0
end Go.Proofs.YtjichadkonlfpaaDoor
