/- Tokens, Size, nil tables, awake. No conditions. -/
import Derived.Test.YtkbbelbcjokncaaT4
namespace Go.Proofs.Ytkbbelbcjokncaa
open Go.RowKit Go.Maps Go.WideMaps
variable {w w' w0 : World} {base g m : Nat} {own : Nat → Prop} {t : LT} {D : DataW Unit}
set_option maxRecDepth 100000 in
set_option maxHeartbeats 1000000 in
theorem Tokens_any (h : Tbl w base own g t m D) (s : ByteArray) (hsz : s.size ≤ maxLen) : Calls Try.prog 11 #[.pointer (some ⟨g, 0, none⟩), .string s] w fun e w' => e = .returned (.int .i64 (t.tokens s.data.toList)) ∧ w' = w := by
  have hkey : keyOf Try.prog 9 (.string s) = some (.string s.data.toList) := keyOf_string_mk Try.underlying9 hsz
  have hz : (zeroValue 47).run Try.prog w = .ok (.pointer none) w := by kernel_rfl
  obtain ⟨v, ps, hrun, hv⟩ := h.map.lookup (string_keyed Try.underlying9) Try.underlying44 hz (zd := .nil) (zp := []) rfl hkey
  have f2 := h.field (i := 2) rfl
  have f0 := h.field (i := 0) rfl
  cases hbk : t.bk s.data.toList with
  | some p =>
    obtain ⟨b, hat, hb, hob⟩ := h.some_ _ p hbk
    rw [hat] at hv
    obtain rfl := ptrElem_at hv
    have c0 : w.cell? ⟨b, 0, none⟩ = some (.int .i64 p.1) := by rw [cell_of_row _ b 0 _ _ _ hb]; rfl
    have ht : t.tokens s.data.toList = p.1 := by unfold LT.tokens; rw [hbk]
    have Ht := Lib.hid ht
    clear ht hat hb hv hbk hz hkey
    go_enter Try.func11, Try.ntmps11
    go_wp2
    go_ret
    exact ⟨by rw [Ht.out]; rfl, rfl⟩
  | none =>
    have hno := h.none_ _ hbk
    rw [Maps.atKey_of_not_has hno] at hv
    obtain rfl := ptrElem_nil hv
    have ht : t.tokens s.data.toList = t.most := by unfold LT.tokens; rw [hbk]
    have Ht := Lib.hid ht
    clear ht hno hv hbk hz hkey
    go_enter Try.func11, Try.ntmps11
    go_wp2
    go_ret
    exact ⟨by rw [Ht.out]; rfl, rfl⟩
set_option maxRecDepth 100000 in
set_option maxHeartbeats 1000000 in
theorem Size_any (h : Tbl w base own g t m D) : Calls Try.prog 14 #[.pointer (some ⟨g, 0, none⟩)] w fun e w' => e = .returned (.int .i64 (t.n : Int)) ∧ w' = w := by
  have hlen := h.map.len Try.underlying44 3
  rw [h.size] at hlen
  have f2 := h.field (i := 2) rfl
  go_enter Try.func14, Try.ntmps14
  go_wp2
  go_ret
  exact ⟨rfl, rfl⟩
set_option maxRecDepth 100000 in
set_option maxHeartbeats 1000000 in
theorem Size_nil (w : World) : Calls Try.prog 14 #[.pointer none] w fun e w' => e = .returned (.int .i64 0) ∧ w' = w := by
  go_enter Try.func14, Try.ntmps14
  go_wp2
  go_ret
  exact ⟨rfl, rfl⟩
set_option maxRecDepth 100000 in
set_option maxHeartbeats 1000000 in
theorem Tokens_nil (w : World) (v : Value) : Calls Try.prog 11 #[.pointer none, v] w fun e w' => e = .returned (.int .i64 0) ∧ w' = w := by
  go_enter Try.func11, Try.ntmps11
  go_wp2
  go_ret
  exact ⟨rfl, rfl⟩
set_option maxRecDepth 100000 in
set_option maxHeartbeats 1000000 in
theorem Take_nil (w : World) (v u : Value) : Calls Try.prog 10 #[.pointer none, v, u] w fun e w' => e = .returned (.bool false) ∧ w' = w := by
  go_enter Try.func10, Try.ntmps10
  go_wp2
  go_ret
  exact ⟨rfl, rfl⟩
/-- A table of the call's own. -/
def TK (w0 w : World) (g m : Nat) (t : LT) : Prop := t.ok ∧ ∃ own D, Tbl w w0.heap.size own g t m D ∧ Below w0.heap.size w0 w
theorem TK.below0 (h : TK w0 w g m t) : Below w0.heap.size w0 w := h.2.elim fun _ h => h.elim fun _ h => h.2
theorem TK.ok (h : TK w0 w g m t) : t.ok := h.1
theorem Turns.below0 (hT : Turns own w w') (ho : ∀ k, own k → base ≤ k) (hb : base ≤ w.heap.size) : Below base w w' :=
  ⟨hT.os, hT.tape, hT.output, hT.size, fun k hk => hT.block k (by omega) (fun e => by have := ho k e; omega)⟩
theorem Take_tk (h : TK w0 w g m t) (s : ByteArray) (hsz : s.size ≤ maxLen) {now : Int} (hn : -9223372036854775808 ≤ now ∧ now ≤ 9223372036854775807) (hroom : t.bk s.data.toList = none → t.n < 64) :
    Calls Try.prog 10 #[.pointer (some ⟨g, 0, none⟩), .string s, .int .i64 now] w fun e w' => e = .returned (.bool (t.take s.data.toList now).1) ∧ TK w0 w' g m (t.take s.data.toList now).2 := by
  obtain ⟨hok, own, D, hT, hb⟩ := h
  refine (Take_any hT hok s hsz hn hroom).mono ?_
  rintro e w' ⟨he, own', D', hT', hTu, ho⟩
  exact ⟨he, LT.take_ok hok _ hn, own', D', hT', hb.trans (Turns.below0 hTu (fun k hk => (hT.bnd k hk).1) hb.size)⟩
theorem Tokens_tk (h : TK w0 w g m t) (s : ByteArray) (hsz : s.size ≤ maxLen) : Calls Try.prog 11 #[.pointer (some ⟨g, 0, none⟩), .string s] w fun e w' => e = .returned (.int .i64 (t.tokens s.data.toList)) ∧ w' = w := by
  obtain ⟨_, own, D, hT, _⟩ := h
  exact Tokens_any hT s hsz
theorem Size_tk (h : TK w0 w g m t) : Calls Try.prog 14 #[.pointer (some ⟨g, 0, none⟩)] w fun e w' => e = .returned (.int .i64 (t.n : Int)) ∧ w' = w := by
  obtain ⟨_, own, D, hT, _⟩ := h
  exact Size_any hT
theorem Tbl.low {base' : Nat} (h : Tbl w base own g t m D) (hb : base' ≤ base) : Tbl w base' own g t m D :=
  ⟨h.blk, h.map, h.size, h.none_, h.some_, h.inj, h.ownG, h.ownM, fun k hk => ⟨Nat.le_trans hb (h.bnd k hk).1, (h.bnd k hk).2⟩⟩
theorem fresh_ok {most each : Int} (h1 : 1 ≤ most) (h2 : most ≤ 2147483648) (h3 : 0 ≤ each) (h4 : each ≤ 2147483648) : (LT.fresh most each).ok := ⟨⟨h1, h2⟩, ⟨h3, h4⟩, fun k p h => (by cases h)⟩
theorem New_tk (most each : Int) (h1 : 1 ≤ most) (h2 : most ≤ 2147483648) (h3 : 0 ≤ each) (h4 : each ≤ 2147483648) (hb : Below w0.heap.size w0 w) : Calls Try.prog 9 #[.int .i64 most, .int .i64 each] w
    fun e w' => ∃ g m, e = .returned (.tuple #[.pointer (some ⟨g, 0, none⟩), .int .i64 0]) ∧ TK w0 w' g m (LT.fresh most each) := by
  refine (New_any most each h1 h2 h3 h4 w).mono ?_
  rintro e w' ⟨g, m, D, he, hT, hb'⟩
  exact ⟨g, m, he, fresh_ok h1 h2 h3 h4, _, D, hT.low hb.size, hb.trans (hb'.mono hb.size)⟩
def strA : ByteArray := ⟨#[97]⟩
theorem awake_chain : ∃ t1 t2 t3, (LT.fresh 1 1).take strA.data.toList 0 = (true, t1) ∧ t1.take strA.data.toList 0 = (false, t2) ∧ t2.take strA.data.toList 1 = (true, t3) ∧ t1.bk strA.data.toList ≠ none ∧ t2.bk strA.data.toList ≠ none :=
  ⟨_, _, _, rfl, rfl, rfl, by decide, by decide⟩
set_option maxRecDepth 100000 in
set_option maxHeartbeats 1000000 in
theorem awake_any (w : World) : Calls Try.prog 8 #[] w fun e w' => e = .returned (.bool true) ∧ Below w.heap.size w w' := by
  obtain ⟨t1, t2, t3, e1, e2, e3, b1, b2⟩ := awake_chain
  have E1 := Lib.hid e1
  have E2 := Lib.hid e2
  have E3 := Lib.hid e3
  have B1 := Lib.hid b1
  have B2 := Lib.hid b2
  clear e1 e2 e3 b1 b2
  go_enter Try.func8, Try.ntmps8
  go_wp2_with (first
    | (go_at_call 9; go_must (refine (New_tk (w0 := w) 1 1 (by omega) (by omega) (by omega) (by omega) (Below.refl _ _)).mono ?_; rintro e w1 ⟨g, m, rfl, h1⟩; have H1 := Lib.hid h1; clear h1))
    | (go_at_call 10; (refine (Take_tk H1.out strA (by decide) (now := 0) (by omega) (fun _ => by show 0 < 64; omega)).mono ?_; rintro e w2 ⟨rfl, h2⟩; rw [E1.out] at h2 ⊢; have H2 := Lib.hid h2; clear h2 H1))
    | (go_at_call 10; (refine (Take_tk H2.out strA (by decide) (now := 0) (by omega) (fun e => absurd e B1.out)).mono ?_; rintro e w3 ⟨rfl, h3⟩; rw [E2.out] at h3 ⊢; have H3 := Lib.hid h3; clear h3 H2))
    | (go_at_call 10; (refine (Take_tk H3.out strA (by decide) (now := 1) (by omega) (fun e => absurd e B2.out)).mono ?_; rintro e w4 ⟨rfl, h4⟩; rw [E3.out] at h4 ⊢; have H4 := Lib.hid h4; clear h4 H3)))
  go_ret
  exact ⟨rfl, H4.out.below0⟩
end Go.Proofs.Ytkbbelbcjokncaa
