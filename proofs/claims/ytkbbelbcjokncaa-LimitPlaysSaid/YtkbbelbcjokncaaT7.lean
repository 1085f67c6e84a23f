/- The walk of Take where the table is full. No conditions. -/
import Derived.Test.YtkbbelbcjokncaaT6
namespace Go.Proofs.Ytkbbelbcjokncaa
open Go.RowKit Go.Maps Go.WideMaps
variable {w w' w0 : World} {base g m : Nat} {own : Nat → Prop} {t : LT} {D : DataW Unit}
theorem cut_ok {t : LT} (h : t.ok) (o : List UInt8) : (t.cut o).ok := ⟨h.most, h.each, fun k p hk => by
  have h1 : (if k = o then none else t.bk k) = some p := hk
  by_cases e : k = o
  · rw [if_pos e] at h1; cases h1
  · rw [if_neg e] at h1; exact h.bk k p h1⟩
def FullPost (base g m : Nat) (own : Nat → Prop) (t : LT) (k : List UInt8) (now : Int) (w : World) (e : Ending) (w' : World) : Prop :=
  ∃ o, Goes t o ∧ e = .returned (.bool ((t.cut o).take k now).1) ∧ ∃ own' D', Tbl w' base own' g ((t.cut o).take k now).2 m D' ∧ Turns own w w' ∧ ∀ k, own' k → own k ∨ w.heap.size ≤ k
set_option maxRecDepth 100000 in
set_option maxHeartbeats 1000000 in
theorem Take_full (h : Tbl w base own g t m D) (hok : t.ok) (s : ByteArray) (hsz : s.size ≤ maxLen) {now : Int} (hn : -9223372036854775808 ≤ now ∧ now ≤ 9223372036854775807) (hbk : t.bk s.data.toList = none) (hn64 : t.n = 64) :
    Calls Try.prog 10 #[.pointer (some ⟨g, 0, none⟩), .string s, .int .i64 now] w (FullPost base g m own t s.data.toList now w) := by
  have hkey : keyOf Try.prog 9 (.string s) = some (.string s.data.toList) := keyOf_string_mk Try.underlying9 hsz
  have hz : (zeroValue 47).run Try.prog w = .ok (.pointer none) w := by kernel_rfl
  obtain ⟨v, ps, hrun, hv⟩ := h.map.lookup (string_keyed Try.underlying9) Try.underlying44 hz (zd := .nil) (zp := []) rfl hkey
  have f2 := h.field (i := 2) rfl
  have hno := h.none_ _ hbk
  rw [Maps.atKey_of_not_has hno] at hv
  obtain rfl := ptrElem_nil hv
  have hik : WideAt.IsKeyLit (.string s.data.toList) := (string_keyed (P := Try.prog) Try.underlying9).key hkey
  have hmo := hok.most
  have Hok := Lib.hid hok
  have Hh := Lib.hid h
  have Hbk := Lib.hid hbk
  have Hik := Lib.hid hik
  have Hn := Lib.hid hn
  have Hkey := Lib.hid hkey
  have Hn64 := Lib.hid hn64
  have hlen := h.map.len Try.underlying44 3
  have hsz64 : decide ((64 : Int) ≤ ((Maps.size D : Nat) : Int)) = true := decide_eq_true (by rw [h.size, hn64]; decide)
  have hm0 : t.most ≠ 0 := by omega
  have hne : ((t.most : Int) == 0) = false := by simpa using hm0
  have hr1 : 1 ≤ t.most := hmo.1
  have hr3 : t.most ≤ 2147483648 := hmo.2
  clear hbk hik hn hkey hno hv hok hmo hn64 h
  go_enter Try.func10, Try.ntmps10
  go_wp2_with (first
    | (go_at_call 17; go_must (refine (evict_any Hh.out (by have := Hn64.out; omega)).mono ?_; rintro e w1 ⟨rfl, o, D1, hgo, h1, hT1⟩; have H1 := Lib.hid h1; have HT1 := Lib.hid hT1; have Hgo := Lib.hid hgo; have f0 := h1.field (i := 0) rfl; have hgl := (h1.bnd _ h1.ownG).2; have f22 := h1.field (i := 2) rfl; have f2' := (fun o => (World.cell?_alloc_lt w1 o ⟨g, 2, none⟩ hgl).trans f22); clear h1 hT1 hgo))
    | (at_mapUpdate; go_must (refine wpList_mapUpdate_own _ rfl _ _ _ _ rfl 9 47 (string_keyed Try.underlying9) Try.underlying44 ptrElem m (t.cut o).n D1 rfl (H1.out.map.alloc _) (by have := Hn64.out; show t.n - 1 < _; simp only [maxLen]; omega) _ _ _ rfl rfl Hkey.out _ [] rfl ?_; intro w2 hm2 hg2; have Hp := Lib.hid (H1.out.put (p := (t.most, now)) (by show (if s.data.toList = o then none else t.bk s.data.toList) = none; rw [Hbk.out]; simp) Hik.out (H1.out.map.tidy (string_keyed Try.underlying9)) hm2 hg2)))
    | (go_at_call 18; go_must (refine (refill_any (m := .map (some m)) Hp.out.1.blk Hp.out.2.2.1 Hok.out.most.2 Hok.out.each ⟨by have := Hok.out.most.1; omega, Int.le_refl _⟩ Hn.out Hn.out).mono ?_; rintro e w3 ⟨rfl, hb3, hg3⟩; change _ = some (Obj.cells #[.int .i64 (refilled t.most t.each (t.most, now) now).1, .int .i64 (refilled t.most t.each (t.most, now) now).2] 49 (0, 0)) at hb3; rw [show refilled t.most t.each (t.most, now) now = (t.most, now) from by unfold refilled; simp] at hb3; have T3 := Lib.hid ((Hp.out.1.token (r := (t.most, now)) (set_bk _ _ _) Hp.out.2.2.2 (.inr rfl) Hp.out.2.2.1 hg3 hb3).2 hm0); have c0 : w3.cell? ⟨w1.heap.size, 0, none⟩ = some (.int .i64 t.most) := (by rw [cell_of_row _ w1.heap.size 0 _ _ _ hb3]; rfl); have z0 : w3.frozen? ⟨w1.heap.size, 0, none⟩ = false := (by simp [World.frozen?, hb3]); clear hb3 hg3)))
  go_ret
  obtain ⟨h1, h2⟩ := T3.out
  rw [set_set] at h1
  have hT := Hp.out.2.1
  have hbkc : (t.cut o).bk s.data.toList = none := by show (if s.data.toList = o then none else t.bk s.data.toList) = none; rw [Hbk.out]; simp
  have hask : (t.cut o).asked s.data.toList now = (t.most, now) := by unfold LT.asked refilled; rw [hbkc]; simp; rfl
  refine ⟨o, Hgo.out, by unfold LT.take; rw [hask]; simp [hm0], _, _, by unfold LT.take; rw [hask]; exact h1, ?_, ?_⟩
  rotate_left
  · intro k hk
    rcases hk with hk | hk
    · exact .inl hk
    · rw [hk]; exact .inr HT1.out.size
  refine HT1.out.trans ⟨h2.os.trans hT.os, h2.tape.trans hT.tape, h2.output.trans hT.output, Nat.le_trans hT.size h2.size, fun k hk hn => ?_⟩
  refine (h2.block k (Nat.lt_of_lt_of_le hk hT.size) (fun e => ?_)).trans (hT.block k hk hn)
  rcases e with e | e
  · exact hn e
  · omega
theorem FullTk (h : TK w0 w g m t) (s : ByteArray) (hsz : s.size ≤ maxLen) {now : Int} (hn : -9223372036854775808 ≤ now ∧ now ≤ 9223372036854775807) (hbk : t.bk s.data.toList = none) (hn64 : t.n = 64) :
    Calls Try.prog 10 #[.pointer (some ⟨g, 0, none⟩), .string s, .int .i64 now] w fun e w' => ∃ o, Goes t o ∧ e = .returned (.bool ((t.cut o).take s.data.toList now).1) ∧ TK w0 w' g m ((t.cut o).take s.data.toList now).2 := by
  obtain ⟨hok, own, D, hT, hb⟩ := h
  refine (Take_full hT hok s hsz hn hbk hn64).mono ?_
  rintro e w' ⟨o, hg, he, own', D', hT', hTu, ho⟩
  exact ⟨o, hg, he, LT.take_ok (cut_ok hok o) _ hn, own', D', hT', hb.trans (Turns.below0 hTu (fun k hk => (hT.bnd k hk).1) hb.size)⟩
end Go.Proofs.Ytkbbelbcjokncaa
