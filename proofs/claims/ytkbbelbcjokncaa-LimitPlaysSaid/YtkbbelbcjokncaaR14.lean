/- The calls on both tables. No conditions. -/
import Derived.Test.YtkbbelbcjokncaaR13
namespace Go.Proofs.Ytkbbelbcjokncaa
open Go.RowKit
variable {w w' w0 : World} {base g m g' : Nat} {own : Nat → Prop} {t t' : LT} {r r' : RT} {V : Value} {k : List UInt8} {now : Int}
theorem disj_grow {own own' o2 : Nat → Prop} {w : World} {base : Nat} (hd : ∀ k, own k → own' k → False) (ho : ∀ k, o2 k → own k ∨ w.heap.size ≤ k) (hb : ∀ k, own' k → base ≤ k ∧ k < w.heap.size) : ∀ k, o2 k → own' k → False := fun k x y => by
  rcases ho k x with x | x
  · exact hd k x y
  · have := (hb k y).2; omega
theorem TakeP (h : Pair w0 w g m t g' r) (hok : t.ok) (h64 : t.n ≤ 64) (s : ByteArray) (hsz : s.size ≤ maxLen) (hn : -9223372036854775808 ≤ now ∧ now ≤ 9223372036854775807) :
    Calls Try.prog 10 #[.pointer (some ⟨g, 0, none⟩), .string s, .int .i64 now] w fun e w' => ∃ x t', e = .returned (.bool x) ∧ t'.ok ∧ PStep t s.data.toList now x t' ∧ Pair w0 w' g m t' g' r := by
  obtain ⟨oA, D, oB, V, hA, hB, hd, hb⟩ := h
  by_cases hf : t.bk s.data.toList = none ∧ t.n = 64
  · refine (Take_full hA hok s hsz hn hf.1 hf.2).mono ?_
    rintro e w' ⟨o, hg, he, own', D', hT', hTu, ho⟩
    exact ⟨_, _, he, LT.take_ok (cut_ok hok o) _ hn, .inr ⟨hf.1, hf.2, o, hg, rfl, rfl⟩, own', D', oB, V, hT', hB.keep hTu.size (fun k hk => hTu.block k (hB.bnd k hk).2 (fun e => hd k e hk)), disj_grow hd ho hB.bnd, hb.trans (Turns.below0 hTu (fun k hk => (hA.bnd k hk).1) hb.size)⟩
  · have hroom : t.bk s.data.toList = none → t.n < 64 := fun e => by
      rcases Nat.lt_or_ge t.n 64 with h | h
      · exact h
      · exact absurd ⟨e, Nat.le_antisymm h64 h⟩ hf
    refine (Take_any hA hok s hsz hn hroom).mono ?_
    rintro e w' ⟨he, own', D', hT', hTu, ho⟩
    exact ⟨_, _, he, LT.take_ok hok _ hn, .inl ⟨hroom, rfl, rfl⟩, own', D', oB, V, hT', hB.keep hTu.size (fun k hk => hTu.block k (hB.bnd k hk).2 (fun e => hd k e hk)), disj_grow hd ho hB.bnd, hb.trans (Turns.below0 hTu (fun k hk => (hA.bnd k hk).1) hb.size)⟩
theorem RTake_any (h : Rtb w base own g r V) (hok : r.ok) (s : ByteArray) (hn : -9223372036854775808 ≤ now ∧ now ≤ 9223372036854775807) :
    Calls Try.prog 13 #[.pointer (some ⟨g, 0, none⟩), .string s, .int .i64 now] w fun e w' => ∃ y r', e = .returned (.bool y) ∧ RStep r s now y r' ∧ AfterR base g own r' w w' := by
  cases hf : r.find s.data.toList with
  | none =>
    rcases Nat.lt_or_ge r.bs.length 64 with hlt | hge
    · refine (RTake_room h hlt s now hok.most hf).mono ?_
      rintro e w' ⟨he, ha⟩
      exact ⟨_, _, he, .inr (.inl ⟨hf, hlt, rfl, rfl⟩), ha⟩
    · have h64 : r.bs.length = 64 := Nat.le_antisymm hok.few hge
      refine (RTake_full h h64 s now hok.most hf).mono ?_
      rintro e w' ⟨he, n, hl, hn, ha⟩
      exact ⟨_, _, he, .inr (.inr ⟨hf, h64, rfl, n, hl, hn, rfl⟩), ha⟩
  | some n =>
    obtain ⟨b, hb, _⟩ := find_at hf
    obtain ⟨htok, hl1, hl2⟩ := hok.bk n b hb
    have fin : ∀ e w', FoundPost base g own r n b now w e w' → ∃ y r', e = .returned (.bool y) ∧ RStep r s now y r' ∧ AfterR base g own r' w w' := by
      rintro e w' ⟨he, ha⟩
      exact ⟨_, _, he, .inl ⟨n, b, hf, hb, rfl, rfl⟩, ha⟩
    by_cases hle : now ≤ b.2.2
    · exact (RTake_still h hok.few s now hok.most.2 hf hb htok hle).mono fin
    · have hlt : b.2.2 < now := by omega
      have hab := apartV_b (d := now - b.2.2) (by omega)
      by_cases hz : r.each = 0
      · have hre : refilled r.most r.each b.2 now = (b.2.1 + r.each * apartV (now - b.2.2), now) := by
          unfold refilled
          rw [if_neg hle, hz, Int.zero_mul, Int.zero_mul, Int.add_zero]
          congr 1
          omega
        exact (RTake_none h hok.few s now hok.most hok.each hf hb htok hl1 hn.2 hlt hz (by rw [hz, Int.zero_mul]; omega) hre).mono fin
      · have hpos : 0 < r.each := by have := hok.each.1; omega
        have hfill := ref_fill htok hok.most.2 hpos (d := now - b.2.2)
        by_cases hq : (r.most - b.2.1 + r.each - 1).tdiv r.each ≤ apartV (now - b.2.2)
        · exact (RTake_fill h hok.few s now hok.most ⟨hpos, hok.each.2⟩ hf hb htok hl1 hn.2 hlt hq).mono fin
        · rw [if_neg hq] at hfill
          have hre : refilled r.most r.each b.2 now = (b.2.1 + r.each * apartV (now - b.2.2), now) := by
            unfold refilled
            rw [if_neg hle, hfill]
          exact (RTake_more h hok.few s now hok.most hok.each hf hb htok hl1 hn.2 hlt ⟨hpos, hq⟩ (by rw [hfill]; exact Int.min_le_left _ _) hre).mono fin
theorem TakeR (h : Pair w0 w g m t g' r) (hok : r.ok) (s : ByteArray) (hn : -9223372036854775808 ≤ now ∧ now ≤ 9223372036854775807) :
    Calls Try.prog 13 #[.pointer (some ⟨g', 0, none⟩), .string s, .int .i64 now] w fun e w' => ∃ y r', e = .returned (.bool y) ∧ RStep r s now y r' ∧ Pair w0 w' g m t g' r' := by
  obtain ⟨oA, D, oB, V, hA, hB, hd, hb⟩ := h
  refine (RTake_any hB hok s hn).mono ?_
  rintro e w' ⟨y, r', he, hst, own', V', hT', hTu, ho⟩
  exact ⟨y, r', he, hst, oA, D, own', V', hA.keep hTu.size (fun k hk => hTu.block k (hA.bnd k hk).2 (fun e => hd k hk e)), hT', fun k x y => disj_grow (fun k a b => hd k b a) ho hA.bnd k y x, hb.trans (Turns.below0 hTu (fun k hk => (hB.bnd k hk).1) hb.size)⟩
theorem TokensP (h : Pair w0 w g m t g' r) (s : ByteArray) (hsz : s.size ≤ maxLen) : Calls Try.prog 11 #[.pointer (some ⟨g, 0, none⟩), .string s] w fun e w' => e = .returned (.int .i64 (t.tokens s.data.toList)) ∧ w' = w := by
  obtain ⟨_, _, _, _, hA, _⟩ := h
  exact Tokens_any hA s hsz
theorem SizeP (h : Pair w0 w g m t g' r) : Calls Try.prog 14 #[.pointer (some ⟨g, 0, none⟩)] w fun e w' => e = .returned (.int .i64 (t.n : Int)) ∧ w' = w := by
  obtain ⟨_, _, _, _, hA, _⟩ := h
  exact Size_any hA
theorem TokensR (h : Pair w0 w g m t g' r) (s : ByteArray) (hmax : r.bs.length ≤ 64) : Calls Try.prog 16 #[.pointer (some ⟨g', 0, none⟩), .string s] w fun e w' => e = .returned (.int .i64 (r.tokens s.data.toList)) ∧ w' = w := by
  obtain ⟨_, _, _, _, _, hB, _⟩ := h
  exact RTokens_any hB s hmax
theorem SizeR (h : Pair w0 w g m t g' r) : Calls Try.prog 15 #[.pointer (some ⟨g', 0, none⟩)] w fun e w' => e = .returned (.int .i64 (r.bs.length : Int)) ∧ w' = w := by
  obtain ⟨_, _, _, _, _, hB, _⟩ := h
  exact RSize_any hB
theorem New_pair (h : TK w0 w g m t) (most each : Int) (h1 : 1 ≤ most) (h2 : most ≤ 2147483648) (h3 : 0 ≤ each) (h4 : each ≤ 2147483648) : Calls Try.prog 12 #[.int .i64 most, .int .i64 each] w
    fun e w' => ∃ g', e = .returned (.tuple #[.pointer (some ⟨g', 0, none⟩), .int .i64 0]) ∧ Pair w0 w' g m t g' (RT.fresh most each) := by
  obtain ⟨hok, oA, D, hA, hb⟩ := h
  refine (RNew_any most each h1 h2 h3 h4 w).mono ?_
  rintro e w' ⟨g', he, hT, hb'⟩
  exact ⟨g', he, oA, D, _, _, hA.below hb', hT.low hb.size, fun k x y => by have := (hA.bnd k x).2; have := y.1; omega, hb.trans (hb'.mono hb.size)⟩
def badNew (most each : Int) : Prop := most < 1 ∨ 2147483648 < most ∨ each < 0 ∨ 2147483648 < each
set_option maxRecDepth 100000 in
set_option maxHeartbeats 600000 in
theorem New_bad (most each : Int) (h : badNew most each) (w : World) : Calls Try.prog 9 #[.int .i64 most, .int .i64 each] w fun e w' => e = .returned (.tuple #[.pointer none, .int .i64 1]) ∧ w' = w := by
  by_cases a1 : most < 1
  · have d1 := decide_eq_true a1
    clear h a1
    go_enter Try.func9, Try.ntmps9
    go_wp2
    go_ret2
    exact ⟨rfl, rfl⟩
  · have d1 := decide_eq_false a1
    by_cases a2 : 2147483648 < most
    · have d2 := decide_eq_true a2
      clear h a1 a2
      go_enter Try.func9, Try.ntmps9
      go_wp2
      go_ret2
      exact ⟨rfl, rfl⟩
    · have d2 := decide_eq_false a2
      by_cases a3 : each < 0
      · have d3 := decide_eq_true a3
        clear h a1 a2 a3
        go_enter Try.func9, Try.ntmps9
        go_wp2
        go_ret2
        exact ⟨rfl, rfl⟩
      · have d3 := decide_eq_false a3
        have a4 : 2147483648 < each := by unfold badNew at h; omega
        have d4 := decide_eq_true a4
        clear h a1 a2 a3 a4
        go_enter Try.func9, Try.ntmps9
        go_wp2
        go_ret2
        exact ⟨rfl, rfl⟩
set_option maxRecDepth 100000 in
set_option maxHeartbeats 600000 in
theorem RNew_bad (most each : Int) (h : badNew most each) (w : World) : Calls Try.prog 12 #[.int .i64 most, .int .i64 each] w fun e w' => e = .returned (.tuple #[.pointer none, .int .i64 1]) ∧ w' = w := by
  by_cases a1 : most < 1
  · have d1 := decide_eq_true a1
    clear h a1
    go_enter Try.func12, Try.ntmps12
    go_wp2
    go_ret2
    exact ⟨rfl, rfl⟩
  · have d1 := decide_eq_false a1
    by_cases a2 : 2147483648 < most
    · have d2 := decide_eq_true a2
      clear h a1 a2
      go_enter Try.func12, Try.ntmps12
      go_wp2
      go_ret2
      exact ⟨rfl, rfl⟩
    · have d2 := decide_eq_false a2
      by_cases a3 : each < 0
      · have d3 := decide_eq_true a3
        clear h a1 a2 a3
        go_enter Try.func12, Try.ntmps12
        go_wp2
        go_ret2
        exact ⟨rfl, rfl⟩
      · have d3 := decide_eq_false a3
        have a4 : 2147483648 < each := by unfold badNew at h; omega
        have d4 := decide_eq_true a4
        clear h a1 a2 a3 a4
        go_enter Try.func12, Try.ntmps12
        go_wp2
        go_ret2
        exact ⟨rfl, rfl⟩
end Go.Proofs.Ytkbbelbcjokncaa
