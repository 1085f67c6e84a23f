/- The walk of Take where there is room. No conditions. -/
import Derived.Test.YtkbbelbcjokncaaT3
namespace Go.Proofs.Ytkbbelbcjokncaa
open Go.RowKit Go.Maps Go.WideMaps
variable {w w' : World} {base g m : Nat} {own : Nat → Prop} {t : LT} {D : DataW Unit}
theorem set_bk (t : LT) (k : List UInt8) (p : Int × Int) : (t.set k p).bk k = some p := by show (if k = k then some p else t.bk k) = _; rw [if_pos rfl]
theorem set_set {t : LT} {k : List UInt8} (p r : Int × Int) : (t.set k p).set k r = t.set k r := by
  unfold LT.set
  congr 1
  · funext k'
    by_cases e : k' = k
    · simp [e]
    · simp [e]
  · simp
def TakePost (base g m : Nat) (own : Nat → Prop) (t : LT) (k : List UInt8) (now : Int) (w : World) (e : Ending) (w' : World) : Prop :=
  e = .returned (.bool (t.take k now).1) ∧ ∃ own' D', Tbl w' base own' g (t.take k now).2 m D' ∧ Turns own w w' ∧ ∀ k, own' k → own k ∨ w.heap.size ≤ k
theorem TakePost.mk {k : List UInt8} {now : Int} {r : Int × Int} {own' : Nat → Prop} {D' : DataW Unit} (hr : t.asked k now = r) {b : Bool} (hb : b = decide (r.1 ≠ 0)) (h : Tbl w' base own' g (t.set k (took r)) m D') (hT : Turns own w w') (ho : ∀ k, own' k → own k ∨ w.heap.size ≤ k) :
    TakePost base g m own t k now w (.returned (.bool b)) w' := ⟨by unfold LT.take; rw [hr, hb], own', D', by unfold LT.take; rw [hr]; exact h, hT, ho⟩
/-- A token is taken off a bucket that has been refilled, or none. -/
theorem Tbl.token {w2 : World} (h2 : Tbl w2 base own g t m D) {k : List UInt8} {p r : Int × Int} {b : Nat} (hk : t.bk k = some p) (hat : ∀ z, D.atKey (.string k) z = .lit (.int .u64 (b : Int))) (ho : own b) (hb0 : w2.heap[b]? = some (.cells #[.int .i64 p.1, .int .i64 p.2] 49 (0, 0)))
    {w3 : World} (hg : w2.grownBy w3 (some b)) (hb : w3.heap[b]? = some (.cells #[.int .i64 r.1, .int .i64 r.2] 49 (0, 0))) :
    (r.1 = 0 → Tbl w3 base own g (t.set k (took r)) m D ∧ Turns own w2 w3) ∧ (r.1 ≠ 0 → Tbl (w3.setCell ⟨b, 0, none⟩ (.int .i64 (r.1 - 1))) base own g (t.set k (took r)) m D ∧ Turns own w2 (w3.setCell ⟨b, 0, none⟩ (.int .i64 (r.1 - 1)))) := by
  have hs := h2.setBk hk hat ho hb0 hg hb
  refine ⟨fun h0 => ?_, fun h0 => ?_⟩
  · unfold took
    rw [if_pos h0]
    exact hs
  · have h1 := one_set (i := 0) (v := .int .i64 (r.1 - 1)) (ds := #[.int .i64 (r.1 - 1), .int .i64 r.2]) hb (by simp) 0
    have hk1 : (t.set k r).bk k = some r := by show (if k = k then some r else t.bk k) = _; rw [if_pos rfl]
    have h2 := hs.1.setBk (w' := w3.setCell ⟨b, 0, none⟩ (.int .i64 (r.1 - 1))) (r := (r.1 - 1, r.2)) hk1 hat ho hb h1.2 h1.1
    rw [set_set] at h2
    unfold took
    rw [if_neg h0]
    exact ⟨h2.1, hs.2.trans h2.2⟩
set_option maxRecDepth 100000 in
set_option maxHeartbeats 1000000 in
theorem Take_any (h : Tbl w base own g t m D) (hok : t.ok) (s : ByteArray) (hsz : s.size ≤ maxLen) {now : Int} (hn : -9223372036854775808 ≤ now ∧ now ≤ 9223372036854775807) (hroom : t.bk s.data.toList = none → t.n < 64) :
    Calls Try.prog 10 #[.pointer (some ⟨g, 0, none⟩), .string s, .int .i64 now] w (TakePost base g m own t s.data.toList now w) := by
  have hkey : keyOf Try.prog 9 (.string s) = some (.string s.data.toList) := keyOf_string_mk Try.underlying9 hsz
  have hz : (zeroValue 47).run Try.prog w = .ok (.pointer none) w := by kernel_rfl
  obtain ⟨v, ps, hrun, hv⟩ := h.map.lookup (string_keyed Try.underlying9) Try.underlying44 hz (zd := .nil) (zp := []) rfl hkey
  have f2 := h.field (i := 2) rfl
  have hask := LT.asked_ok hok s.data.toList hn
  cases hbk : t.bk s.data.toList with
  | some p =>
    obtain ⟨b, hat, hb, hob⟩ := h.some_ _ p hbk
    rw [hat] at hv
    obtain rfl := ptrElem_at hv
    obtain ⟨r, hr⟩ : ∃ r, t.asked s.data.toList now = r := ⟨_, rfl⟩
    have hr2 : refilled t.most t.each (p.1, p.2) now = r := by rw [← hr]; unfold LT.asked; rw [hbk]; rfl
    rw [hr] at hask
    have hre := refill_any (m := .map (some m)) h.blk hb hok.most.2 hok.each (hok.bk _ p hbk).1 (hok.bk _ p hbk).2 hn
    rw [hr2] at hre
    have Hre := Lib.hid hre
    have Htok := Lib.hid (fun w3 => h.token (w3 := w3) (r := r) hbk hat hob hb)
    have Hr := Lib.hid hr
    by_cases h0 : r.1 = 0
    · clear hre hr hr2 hask hat hb hv hroom hok hbk hz hkey hn
      go_enter Try.func10, Try.ntmps10
      go_wp2_with (go_at_call 18; go_must (refine Hre.out.mono ?_; rintro e w3 ⟨rfl, hb3, hg3⟩; have T3 := Lib.hid ((Htok.out w3 hg3 hb3).1 h0); have c0 : w3.cell? ⟨b, 0, none⟩ = some (.int .i64 0) := (by rw [cell_of_row _ b 0 _ _ _ hb3, h0]; rfl); clear hb3 hg3))
      go_ret
      exact TakePost.mk Hr.out (by simp [h0]) T3.out.1 T3.out.2 (fun k hk => .inl hk)
    · have hne : ((r.1 : Int) == 0) = false := by simpa using h0
      have hr1 : 1 ≤ r.1 := by have := hask.1.1; omega
      have hr3 : r.1 ≤ 2147483648 := by have := hask.1.2; have := hok.most.2; omega
      clear hask hre hr hr2 hat hb hv hroom hok hbk hz hkey hn
      go_enter Try.func10, Try.ntmps10
      go_wp2_with (go_at_call 18; go_must (refine Hre.out.mono ?_; rintro e w3 ⟨rfl, hb3, hg3⟩; have T3 := Lib.hid ((Htok.out w3 hg3 hb3).2 h0); have c0 : w3.cell? ⟨b, 0, none⟩ = some (.int .i64 r.1) := (by rw [cell_of_row _ b 0 _ _ _ hb3]; rfl); have z0 : w3.frozen? ⟨b, 0, none⟩ = false := (by simp [World.frozen?, hb3]); clear hb3 hg3))
      go_ret
      exact TakePost.mk Hr.out (by simp [h0]) T3.out.1 T3.out.2 (fun k hk => .inl hk)
  | none =>
    have hno := h.none_ _ hbk
    rw [Maps.atKey_of_not_has hno] at hv
    obtain rfl := ptrElem_nil hv
    have hn64 := hroom hbk
    have hti := h.map.tidy (string_keyed Try.underlying9)
    have hik : WideAt.IsKeyLit (.string s.data.toList) := (string_keyed (P := Try.prog) Try.underlying9).key hkey
    obtain ⟨r, hr⟩ : ∃ r, t.asked s.data.toList now = r := ⟨_, rfl⟩
    have hr0 : r = (t.most, now) := by rw [← hr]; unfold LT.asked refilled; rw [hbk]; simp
    have hr2 : refilled t.most t.each (t.most, now) now = r := by rw [hr0]; unfold refilled; simp
    have hmo := hok.most
    have f0 := h.field (i := 0) rfl
    have Hok := Lib.hid hok
    have Hn64 := Lib.hid hn64
    have Hh := Lib.hid h
    have Hr := Lib.hid hr
    have Hr2 := Lib.hid hr2
    have Hbk := Lib.hid hbk
    have Hti := Lib.hid hti
    have Hik := Lib.hid hik
    have Hn := Lib.hid hn
    have Hkey := Lib.hid hkey
    have hlen := h.map.len Try.underlying44 3
    have hsz64 : decide ((64 : Int) ≤ ((Maps.size D : Nat) : Int)) = false := decide_eq_false (by rw [h.size]; omega)
    have hgl := (h.bnd _ h.ownG).2
    have f2' := fun o => (World.cell?_alloc_lt w o ⟨g, 2, none⟩ hgl).trans f2
    have h0 : r.1 ≠ 0 := by rw [hr0]; show t.most ≠ 0; omega
    have hne : ((r.1 : Int) == 0) = false := by simpa using h0
    have hr1 : 1 ≤ r.1 := by rw [hr0]; exact hmo.1
    have hr3 : r.1 ≤ 2147483648 := by rw [hr0]; exact hmo.2
    clear hr hr2 hbk hti hik hn hkey hask hno hv hok hroom hr0 hmo hn64
    go_enter Try.func10, Try.ntmps10
    go_wp2_with (first
      | (at_mapUpdate; go_must (refine wpList_mapUpdate_own _ rfl _ _ _ _ rfl 9 47 (string_keyed Try.underlying9) Try.underlying44 ptrElem m t.n D rfl (Hh.out.map.alloc _) (by have := Hn64.out; simp only [maxLen]; omega) _ _ _ rfl rfl Hkey.out _ [] rfl ?_; intro w2 hm2 hg2; have Hp := Lib.hid (Hh.out.put (p := (t.most, now)) Hbk.out Hik.out Hti.out hm2 hg2)))
      | (go_at_call 18; go_must (refine (refill_any (m := .map (some m)) Hp.out.1.blk Hp.out.2.2.1 Hok.out.most.2 Hok.out.each ⟨by have := Hok.out.most.1; omega, Int.le_refl _⟩ Hn.out Hn.out).mono ?_; rintro e w3 ⟨rfl, hb3, hg3⟩; change _ = some (Obj.cells #[.int .i64 (refilled t.most t.each (t.most, now) now).1, .int .i64 (refilled t.most t.each (t.most, now) now).2] 49 (0, 0)) at hb3; rw [Hr2.out] at hb3; have T3 := Lib.hid ((Hp.out.1.token (r := r) (set_bk _ _ _) Hp.out.2.2.2 (.inr rfl) Hp.out.2.2.1 hg3 hb3).2 h0); have c0 : w3.cell? ⟨w.heap.size, 0, none⟩ = some (.int .i64 r.1) := (by rw [cell_of_row _ w.heap.size 0 _ _ _ hb3]; rfl); have z0 : w3.frozen? ⟨w.heap.size, 0, none⟩ = false := (by simp [World.frozen?, hb3]); clear hb3 hg3)))
    go_ret
    obtain ⟨h1, h2⟩ := T3.out
    rw [set_set] at h1
    refine TakePost.mk Hr.out (by simp [h0]) h1 ?_ (fun k hk => hk.imp id fun e => by rw [e]; exact Nat.le_refl _)
    have hT := Hp.out.2.1
    refine ⟨h2.os.trans hT.os, h2.tape.trans hT.tape, h2.output.trans hT.output, Nat.le_trans hT.size h2.size, fun k hk hn => ?_⟩
    refine (h2.block k (Nat.lt_of_lt_of_le hk hT.size) (fun e => ?_)).trans (hT.block k hk hn)
    rcases e with e | e
    · exact hn e
    · omega
end Go.Proofs.Ytkbbelbcjokncaa
