/- The walks of the reference's apart, find and Tokens. No conditions. -/
import Derived.Test.YtkbbelbcjokncaaR1
namespace Go.Proofs.Ytkbbelbcjokncaa
open Go.RowKit
variable {w w' : World} {base g : Nat} {own : Nat → Prop} {t : RT} {V : Value}
set_option maxRecDepth 100000 in
set_option maxHeartbeats 600000 in
theorem apart_any (a b : Int) (ha : -9223372036854775808 ≤ a) (hb : b ≤ 9223372036854775807) (hab : a < b) (w : World) : Calls Try.prog 21 #[.int .i64 a, .int .i64 b] w
    fun e w' => e = .returned (.int .i64 (if 4294967296 < b - a then 4294967296 else b - a)) ∧ w' = w := by
  have hsub : IntKind.u64.wrap (IntKind.u64.wrap b - IntKind.u64.wrap a) = b - a := by rw [IntKind.wrap_u64, IntKind.wrap_u64, IntKind.wrap_u64]; omega
  by_cases h : 4294967296 < b - a
  · have d1 : decide (4294967296 < IntKind.u64.wrap (IntKind.u64.wrap b - IntKind.u64.wrap a)) = true := by rw [hsub]; exact decide_eq_true h
    rw [if_pos h]
    clear ha hb hab h hsub
    go_enter Try.func21, Try.ntmps21
    go_wp2
    go_ret
    exact ⟨rfl, rfl⟩
  · have d1 : decide (4294967296 < IntKind.u64.wrap (IntKind.u64.wrap b - IntKind.u64.wrap a)) = false := by rw [hsub]; exact decide_eq_false h
    have hw : wrap64 (b - a) = b - a := by unfold wrap64; omega
    have Hw := Lib.hid hw
    rw [if_neg h]
    clear ha hb hab h hsub hw
    go_enter Try.func21, Try.ntmps21
    go_wp2
    go_ret
    exact ⟨by show Ending.returned (.int .i64 (wrap64 (b - a))) = _; rw [Hw.out], rfl⟩
/-- Where the key's bucket stands. -/
def RT.find (t : RT) (k : List UInt8) : Option Nat := t.bs.findIdx? fun b => b.1.data.toList == k
def NotAt (l : List Bk) (k : List UInt8) (n : Nat) : Prop := ∀ j b, l[j]? = some b → j < n → b.1.data.toList ≠ k
theorem find_some {l : List Bk} {k : List UInt8} {n : Nat} {b : Bk} (h : NotAt l k n) (hb : l[n]? = some b) (he : b.1.data.toList = k) : l.findIdx? (fun b => b.1.data.toList == k) = some n := by
  rw [List.findIdx?_eq_some_iff_getElem]
  have hlt : n < l.length := by
    rcases Nat.lt_or_ge n l.length with h' | h'
    · exact h'
    · rw [List.getElem?_eq_none h'] at hb; cases hb
  refine ⟨hlt, ?_, fun j hj => ?_⟩
  · rw [List.getElem?_eq_getElem hlt] at hb
    cases hb
    simpa using he
  · have := h j _ (List.getElem?_eq_getElem (by omega)) hj
    simpa using this
theorem find_none {l : List Bk} {k : List UInt8} (h : NotAt l k l.length) : l.findIdx? (fun b => b.1.data.toList == k) = none := by
  rw [List.findIdx?_eq_none_iff]
  intro b hb
  obtain ⟨j, hj⟩ := List.mem_iff_getElem?.1 hb
  have hlt : j < l.length := by
    rcases Nat.lt_or_ge j l.length with h' | h'
    · exact h'
    · rw [List.getElem?_eq_none h'] at hj; cases hj
  simpa using h j b hj hlt
def findV (t : RT) (k : List UInt8) : Int := match t.find k with | some n => (n : Int) | none => -1
set_option maxRecDepth 100000 in
set_option maxHeartbeats 600000 in
theorem find_any (h : Rtb w base own g t V) (s : ByteArray) (hmax : t.bs.length ≤ 64) : Calls Try.prog 19 #[.pointer (some ⟨g, 0, none⟩), .string s] w fun e w' => e = .returned (.int .i64 (findV t s.data.toList)) ∧ w' = w := by
  have f2 := h.field (i := 2) rfl
  obtain ⟨A, c, rfl⟩ := h.form
  have Hh := Lib.hid h
  clear h
  go_enter Try.func19, Try.ntmps19
  go_wp2
  go_loopw [11] (fun i wr => ∃ k : Nat, k ≤ t.bs.length ∧ i = .int .i64 k ∧ Hid (NotAt t.bs s.data.toList k) ∧ wr = w) (fun i _ => t.bs.length - (intOf i).toNat)
  case atStart => exact ⟨0, Nat.zero_le _, rfl, fun j b _ h => by omega, rfl⟩
  case round =>
    obtain ⟨k, hk, rfl, hN, rfl⟩ := hrel
    by_cases hlt : k < t.bs.length
    · have hlt' : (k : Int) < (t.bs.length : Int) := by omega
      have hk0 : (0 : Int) ≤ (k : Int) := by omega
      have hkm : (k : Int) < 64 := by omega
      obtain ⟨b, hb⟩ : ∃ b, t.bs[k]? = some b := ⟨_, List.getElem?_eq_getElem hlt⟩
      obtain ⟨gV, c', hV, _, _, c0, _, _⟩ := Hh.out.at_ hb
      obtain ⟨rfl, rfl⟩ : A = some ⟨gV, 0, none⟩ ∧ c = c' := by injection hV; exact ⟨by assumption, by assumption⟩
      have Hb := Lib.hid hb
      clear hV hb
      have hbl : b.1.toList = b.1.data.toList := ByteArray.toList_eq _
      have hsl : s.toList = s.data.toList := ByteArray.toList_eq _
      cases he : b.1.toList == s.toList with
      | true =>
        have He : Hid (b.1.data.toList = s.data.toList) := by show _ = _; rw [← hbl, ← hsl]; simpa using he
        clear hbl hsl
        go_wp2
        go_ret
        exact ⟨by unfold findV RT.find; rw [find_some hN.out Hb.out He.out]; rfl, rfl⟩
      | false =>
        have He : Hid (b.1.data.toList ≠ s.data.toList) := by show _ ≠ _; rw [← hbl, ← hsl]; simpa using he
        clear hbl hsl
        go_wp2
        go_roundw
        case rel => exact ⟨k + 1, hlt, by go_num, fun j b' hb' hj => by
          rcases Nat.lt_succ_iff_lt_or_eq.1 hj with hj | rfl
          · exact hN.out j b' hb' hj
          · have := Hb.out; rw [hb'] at this; cases this; exact He.out, trivial⟩
        case measure => simp [intOf]; omega
    · obtain rfl : k = t.bs.length := by omega
      go_wp2
      go_ret
      exact ⟨by unfold findV RT.find; rw [find_none hN.out]; rfl, rfl⟩
def RT.tokens (t : RT) (k : List UInt8) : Int := match t.find k with | some n => (t.bs.getD n (⟨#[]⟩, 0, 0)).2.1 | none => t.most
set_option maxRecDepth 100000 in
set_option maxHeartbeats 600000 in
theorem RTokens_any (h : Rtb w base own g t V) (s : ByteArray) (hmax : t.bs.length ≤ 64) : Calls Try.prog 16 #[.pointer (some ⟨g, 0, none⟩), .string s] w fun e w' => e = .returned (.int .i64 (t.tokens s.data.toList)) ∧ w' = w := by
  have f2 := h.field (i := 2) rfl
  have f0 := h.field (i := 0) rfl
  have Hh := Lib.hid h
  cases hf : t.find s.data.toList with
  | none =>
    have hv : findV t s.data.toList = -1 := by unfold findV; rw [hf]
    have ht : t.tokens s.data.toList = t.most := by unfold RT.tokens; rw [hf]
    have Hv := Lib.hid hv
    have Ht := Lib.hid ht
    clear hv ht hf h
    go_enter Try.func16, Try.ntmps16
    go_wp2_with (go_at_call 19; go_must (refine (find_any Hh.out s hmax).mono ?_; rintro e w1 ⟨rfl, rfl⟩; rw [Hv.out]))
    go_ret
    exact ⟨by rw [Ht.out]; rfl, rfl⟩
  | some n =>
    have hn : n < t.bs.length := by
      have := List.findIdx?_eq_some_iff_getElem.1 hf
      exact this.1
    obtain ⟨b, hb⟩ : ∃ b, t.bs[n]? = some b := ⟨_, List.getElem?_eq_getElem hn⟩
    obtain ⟨gV, c', hV, _, _, _, c1, _⟩ := h.at_ hb
    subst hV
    have hv : findV t s.data.toList = (n : Int) := by unfold findV; rw [hf]
    have ht : t.tokens s.data.toList = b.2.1 := by unfold RT.tokens; rw [hf]; simp only [List.getD_eq_getElem?_getD, hb, Option.getD_some]
    have Hv := Lib.hid hv
    have Ht := Lib.hid ht
    have hn' : (n : Int) < (t.bs.length : Int) := by omega
    have hn0 : (0 : Int) ≤ (n : Int) := by omega
    clear hv ht hf h hb
    go_enter Try.func16, Try.ntmps16
    go_wp2_with (go_at_call 19; go_must (refine (find_any Hh.out s hmax).mono ?_; rintro e w1 ⟨rfl, rfl⟩; rw [Hv.out]))
    go_ret
    exact ⟨by rw [Ht.out]; rfl, rfl⟩
end Go.Proofs.Ytkbbelbcjokncaa
