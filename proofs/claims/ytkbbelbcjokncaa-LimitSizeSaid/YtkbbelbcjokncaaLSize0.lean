/- The number of buckets, in plain words. No conditions. -/
import Derived.Test.YtkbbelbcjokncaaT7
namespace Go.Proofs.Ytkbbelbcjokncaa
open Go.RowKit
variable {t : LT}
structure Siz (t : LT) : Prop where
  ok : t.ok
  most : t.most = 3
  n : t.n ≤ 64
  one : ∀ k, t.bk k ≠ none → 1 ≤ t.n
theorem Siz.start : Siz (LT.fresh 3 0) := ⟨fresh_ok (by decide) (by decide) (by decide) (by decide), rfl, Nat.zero_le _, fun _ h => absurd rfl h⟩
theorem Siz.take (h : Siz t) (k : List UInt8) {now : Int} (hn : -9223372036854775808 ≤ now ∧ now ≤ 9223372036854775807) (hr : t.bk k = none → t.n < 64) :
    Siz (t.take k now).2 ∧ 1 ≤ (t.take k now).2.n ∧ (t.take k now).2.tokens k ≤ 2 := by
  have h1 : (t.take k now).2.n = if t.bk k = none then t.n + 1 else t.n := rfl
  have h2 : 1 ≤ (t.take k now).2.n := by
    rw [h1]
    split
    · omega
    · exact h.one k (by assumption)
  have ha := (LT.asked_ok h.ok k hn).1
  refine ⟨⟨LT.take_ok h.ok k hn, h.most, ?_, fun _ _ => h2⟩, h2, ?_⟩
  · rw [h1]
    split
    · have := hr (by assumption); omega
    · exact h.n
  · have : (t.take k now).2.tokens k = (took (t.asked k now)).1 := by
      show (t.set k _).tokens k = _
      unfold LT.tokens
      rw [set_bk]
    rw [this]
    unfold took
    have hm := h.most
    split
    · omega
    · show (t.asked k now).1 - 1 ≤ 2; omega
theorem Siz.cut (h : Siz t) (hn : t.n = 64) (o : List UInt8) : Siz (t.cut o) ∧ (t.cut o).n < 64 := by
  have h1 : (t.cut o).n = 63 := by show t.n - 1 = 63; omega
  exact ⟨⟨cut_ok h.ok o, h.most, by omega, fun _ _ => by omega⟩, by omega⟩
/-- Whether there is room or not. -/
theorem TakeAny {w w0 : World} {g m : Nat} (h : TK w0 w g m t) (hs : Siz t) (s : ByteArray) (hsz : s.size ≤ maxLen) {now : Int} (hn : -9223372036854775808 ≤ now ∧ now ≤ 9223372036854775807) :
    Calls Try.prog 10 #[.pointer (some ⟨g, 0, none⟩), .string s, .int .i64 now] w fun e w' => ∃ b t', e = .returned (.bool b) ∧ TK w0 w' g m t' ∧ Siz t' ∧ 1 ≤ t'.n ∧ t'.tokens s.data.toList ≤ 2 := by
  by_cases hf : t.bk s.data.toList = none ∧ t.n = 64
  · refine (FullTk h s hsz hn hf.1 hf.2).mono ?_
    rintro e w' ⟨o, _, he, hT⟩
    obtain ⟨h1, h2⟩ := hs.cut hf.2 o
    obtain ⟨h3, h4, h5⟩ := h1.take s.data.toList hn (fun _ => h2)
    exact ⟨_, _, he, hT, h3, h4, h5⟩
  · have hr : t.bk s.data.toList = none → t.n < 64 := fun e => by
      have := hs.n
      rcases Nat.lt_or_ge t.n 64 with h' | h'
      · exact h'
      · exact absurd ⟨e, by omega⟩ hf
    refine (Take_tk h s hsz hn hr).mono ?_
    rintro e w' ⟨he, hT⟩
    obtain ⟨h3, h4, h5⟩ := hs.take s.data.toList hn hr
    exact ⟨_, _, he, hT, h3, h4, h5⟩
end Go.Proofs.Ytkbbelbcjokncaa
