/- Two tables of the call's own, one key apart from the others. No conditions. -/
import Derived.Test.YtkbbelbcjokncaaT5
namespace Go.Proofs.Ytkbbelbcjokncaa
open Go.RowKit
variable {w w' w0 : World} {ga ma gb mb : Nat} {ta tb : LT}
def TK2 (w0 w : World) (ga ma : Nat) (ta : LT) (gb mb : Nat) (tb : LT) : Prop :=
  (ta.ok ∧ tb.ok) ∧ ∃ ownA DA ownB DB, Tbl w w0.heap.size ownA ga ta ma DA ∧ Tbl w w0.heap.size ownB gb tb mb DB ∧ (∀ k, ownA k → ownB k → False) ∧ Below w0.heap.size w0 w
theorem TK2.swap (h : TK2 w0 w ga ma ta gb mb tb) : TK2 w0 w gb mb tb ga ma ta := by
  obtain ⟨h1, oA, DA, oB, DB, hA, hB, hd, hb⟩ := h
  exact ⟨⟨h1.2, h1.1⟩, oB, DB, oA, DA, hB, hA, fun k x y => hd k y x, hb⟩
theorem TK2.below0 (h : TK2 w0 w ga ma ta gb mb tb) : Below w0.heap.size w0 w := by obtain ⟨_, _, _, _, _, _, _, _, hb⟩ := h; exact hb
theorem TK2.drew (h : TK2 w0 w ga ma ta gb mb tb) (n : Nat) : TK2 w0 { w with drawn := n } ga ma ta gb mb tb := by
  obtain ⟨h1, oA, DA, oB, DB, hA, hB, hd, hb⟩ := h
  have hw : Below w.heap.size w { w with drawn := n } := ⟨rfl, rfl, rfl, Nat.le_refl _, fun _ _ => rfl⟩
  exact ⟨h1, oA, DA, oB, DB, hA.below hw, hB.below hw, hd, hb.trans (hw.mono hb.size)⟩
theorem TK2.grow (h : TK2 w0 w ga ma ta gb mb tb) (hw : Below w.heap.size w w') : TK2 w0 w' ga ma ta gb mb tb := by
  obtain ⟨h1, oA, DA, oB, DB, hA, hB, hd, hb⟩ := h
  exact ⟨h1, oA, DA, oB, DB, hA.below hw, hB.below hw, hd, hb.trans (hw.mono hb.size)⟩
theorem TakeA (h : TK2 w0 w ga ma ta gb mb tb) (s : ByteArray) (hsz : s.size ≤ maxLen) {now : Int} (hn : -9223372036854775808 ≤ now ∧ now ≤ 9223372036854775807) (hroom : ta.bk s.data.toList = none → ta.n < 64) :
    Calls Try.prog 10 #[.pointer (some ⟨ga, 0, none⟩), .string s, .int .i64 now] w fun e w' => e = .returned (.bool (ta.take s.data.toList now).1) ∧ TK2 w0 w' ga ma (ta.take s.data.toList now).2 gb mb tb := by
  obtain ⟨h1, oA, DA, oB, DB, hA, hB, hd, hb⟩ := h
  refine (Take_any hA h1.1 s hsz hn hroom).mono ?_
  rintro e w' ⟨he, own', D', hT', hTu, ho⟩
  refine ⟨he, ⟨LT.take_ok h1.1 _ hn, h1.2⟩, own', D', oB, DB, hT', hB.keep hTu.size (fun k hk => hTu.block k (hB.bnd k hk).2 (fun e => hd k e hk)), fun k x y => ?_, hb.trans (Turns.below0 hTu (fun k hk => (hA.bnd k hk).1) hb.size)⟩
  rcases ho k x with x | x
  · exact hd k x y
  · have := (hB.bnd k y).2; omega
theorem TokensA (h : TK2 w0 w ga ma ta gb mb tb) (s : ByteArray) (hsz : s.size ≤ maxLen) : Calls Try.prog 11 #[.pointer (some ⟨ga, 0, none⟩), .string s] w fun e w' => e = .returned (.int .i64 (ta.tokens s.data.toList)) ∧ w' = w := by
  obtain ⟨_, oA, DA, oB, DB, hA, _⟩ := h
  exact Tokens_any hA s hsz
theorem New_two (h : TK w0 w ga ma ta) (most each : Int) (h1 : 1 ≤ most) (h2 : most ≤ 2147483648) (h3 : 0 ≤ each) (h4 : each ≤ 2147483648) : Calls Try.prog 9 #[.int .i64 most, .int .i64 each] w
    fun e w' => ∃ g m, e = .returned (.tuple #[.pointer (some ⟨g, 0, none⟩), .int .i64 0]) ∧ TK2 w0 w' ga ma ta g m (LT.fresh most each) := by
  obtain ⟨hok, oA, DA, hA, hb⟩ := h
  refine (New_any most each h1 h2 h3 h4 w).mono ?_
  rintro e w' ⟨g, m, D, he, hT, hb'⟩
  exact ⟨g, m, he, ⟨hok, fresh_ok h1 h2 h3 h4⟩, oA, DA, _, D, hA.below hb', hT.low hb.size, fun k x y => by have := (hA.bnd k x).2; have := y.1; omega, hb.trans (hb'.mono hb.size)⟩
theorem nodup_len {α : Type} [BEq α] [LawfulBEq α] : ∀ (l m : List α), l.Nodup → (∀ x ∈ l, x ∈ m) → l.length ≤ m.length
  | [], _, _, _ => Nat.zero_le _
  | x :: t, m, hn, hs => by
    have hx := hs x (by simp)
    rw [List.nodup_cons] at hn
    have h1 := nodup_len t (m.erase x) hn.2 (fun y hy => (List.mem_erase_of_ne (fun e => hn.1 (by rw [← e]; exact hy))).2 (hs y (by simp [hy])))
    rw [List.length_erase_of_mem hx] at h1
    have : 0 < m.length := List.length_pos_of_mem hx
    simp only [List.length_cons]
    omega
def mine : ByteArray := ⟨#[109, 105, 110, 101]⟩
def mineL : List UInt8 := [109, 105, 110, 101]
def other (c : UInt8) : List UInt8 := [111, c]
def names : List (List UInt8) := mineL :: (List.range 32).map fun c => other (UInt8.ofNat c)
structure Apt (ta tb : LT) : Prop where
  most : ta.most = tb.most
  each : ta.each = tb.each
  same : ta.bk mineL = tb.bk mineL
  few : ta.n < 64
  one : ta.bk mineL = none → ta.n = 0
  two : ta.bk mineL ≠ none → ta.n = 1
  keys : ∃ L : List (List UInt8), L.Nodup ∧ (∀ k ∈ L, k ∈ names) ∧ (∀ k, tb.bk k = none ↔ k ∉ L) ∧ tb.n = L.length
theorem Apt.start : Apt (LT.fresh 5 2) (LT.fresh 5 2) := ⟨rfl, rfl, rfl, by decide, fun _ => rfl, fun h => absurd rfl h, [], List.nodup_nil, fun k h => (by cases h), fun k => ⟨fun _ h => (by cases h), fun _ => rfl⟩, rfl⟩
theorem Apt.room (h : Apt ta tb) : tb.n < 64 := by
  obtain ⟨L, h1, h2, _, h4⟩ := h.keys
  have := nodup_len L names h1 h2
  have h3 : names.length = 33 := by decide
  omega
theorem keys_set {k : List UInt8} {p : Int × Int} (hk : k ∈ names) (h : ∃ L : List (List UInt8), L.Nodup ∧ (∀ k ∈ L, k ∈ names) ∧ (∀ k, tb.bk k = none ↔ k ∉ L) ∧ tb.n = L.length) :
    ∃ L : List (List UInt8), L.Nodup ∧ (∀ k ∈ L, k ∈ names) ∧ (∀ k', (tb.set k p).bk k' = none ↔ k' ∉ L) ∧ (tb.set k p).n = L.length := by
  obtain ⟨L, h1, h2, h3, h4⟩ := h
  have hbk : ∀ k', (tb.set k p).bk k' = if k' = k then some p else tb.bk k' := fun _ => rfl
  by_cases hL : k ∈ L
  · have hne : tb.bk k ≠ none := fun e => (h3 k).1 e hL
    refine ⟨L, h1, h2, fun k' => ?_, by unfold LT.set; rw [if_neg hne]; exact h4⟩
    rw [hbk]
    by_cases e : k' = k
    · rw [if_pos e, e]; exact ⟨fun h => (by cases h), fun h => absurd hL h⟩
    · rw [if_neg e]; exact h3 k'
  · have he : tb.bk k = none := (h3 k).2 hL
    refine ⟨k :: L, List.nodup_cons.2 ⟨hL, h1⟩, fun x hx => ?_, fun k' => ?_, by unfold LT.set; rw [if_pos he]; show tb.n + 1 = _; rw [h4]; rfl⟩
    · rcases List.mem_cons.1 hx with rfl | hx
      · exact hk
      · exact h2 x hx
    · rw [hbk]
      by_cases e : k' = k
      · rw [if_pos e, e]; exact ⟨fun h => (by cases h), fun h => absurd (by simp) h⟩
      · rw [if_neg e, h3 k']; simp [e]
/-- What another one asks for. -/
theorem Apt.others (h : Apt ta tb) (c : UInt8) (hc : c.toNat < 32) (now : Int) : Apt ta (tb.take (other c) now).2 := by
  have hk : other c ∈ names := by
    refine List.mem_cons_of_mem _ (List.mem_map.2 ⟨c.toNat, List.mem_range.2 hc, ?_⟩)
    rw [UInt8.ofNat_toNat]
  have hne : mineL ≠ other c := fun e => by have := congrArg List.length e; simp [mineL, other] at this
  refine ⟨h.most, h.each, ?_, h.few, h.one, h.two, keys_set hk h.keys⟩
  show ta.bk mineL = if mineL = other c then some (took (tb.asked (other c) now)) else tb.bk mineL
  rw [if_neg hne]
  exact h.same
/-- What the key itself asks for. -/
theorem Apt.mine (h : Apt ta tb) (now : Int) : (ta.take mineL now).1 = (tb.take mineL now).1 ∧ Apt (ta.take mineL now).2 (tb.take mineL now).2 := by
  have ha : ta.asked mineL now = tb.asked mineL now := by unfold LT.asked; rw [h.most, h.each, h.same]
  have hn1 : (ta.take mineL now).2.n = 1 := by
    show (ta.set mineL _).n = 1
    unfold LT.set
    by_cases e : ta.bk mineL = none
    · rw [if_pos e]; show ta.n + 1 = 1; rw [h.one e]
    · rw [if_neg e]; exact h.two e
  refine ⟨by unfold LT.take; rw [ha], h.most, h.each, ?_, by omega, fun e => ?_, fun _ => hn1, keys_set (by simp [names]) h.keys⟩
  · show (ta.set mineL _).bk mineL = (tb.set mineL _).bk mineL
    rw [set_bk, set_bk, ha]
  · have : (ta.set mineL (took (ta.asked mineL now))).bk mineL = none := e
    rw [set_bk] at this
    cases this
theorem Apt.tokens (h : Apt ta tb) : ta.tokens mineL = tb.tokens mineL := by unfold LT.tokens; rw [h.same, h.most]
end Go.Proofs.Ytkbbelbcjokncaa
