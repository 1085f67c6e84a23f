/- The reference's Take: where the key has a bucket. No conditions. -/
import Derived.Test.YtkbbelbcjokncaaR9
import Derived.Deep.QuietTactic
import Derived.BigQuiet
namespace Go.Proofs.Ytkbbelbcjokncaa
open Go.RowKit
variable {w w' : World} {base g : Nat} {own : Nat → Prop} {t : RT} {V : Value}
theorem Rtb.drewN (h : Rtb w base own g t V) (q : Nat) : Rtb (w.drewN q) base own g t V := ⟨h.blk, h.row, h.ownG, h.ownV, h.bnd, h.gV⟩
theorem set_same {l : List Bk} {n : Nat} {b : Bk} (h : l[n]? = some b) : l.set n b = l := by
  apply List.ext_getElem?
  intro i
  by_cases e : i = n
  · subst e; rw [List.getElem?_set_self (lt_of_get h), h]
  · rw [List.getElem?_set_ne (Ne.symm e)]
def FoundPost (base g : Nat) (own : Nat → Prop) (t : RT) (n : Nat) (b : Bk) (now : Int) (w : World) (e : Ending) (w' : World) : Prop :=
  e = .returned (.bool (decide ((refilled t.most t.each b.2 now).1 ≠ 0))) ∧ AfterR base g own { t with bs := t.bs.set n (b.1, took (refilled t.most t.each b.2 now)) } w w'
theorem FoundPost.mk {n : Nat} {b : Bk} {now : Int} {r : Int × Int} (hr : refilled t.most t.each b.2 now = r) {x : Bool} (hx : x = decide (r.1 ≠ 0)) {bs' : List Bk} (hbs : bs' = t.bs.set n (b.1, took r))
    (h : AfterR base g own { t with bs := bs' } w w') : FoundPost base g own t n b now w (.returned (.bool x)) w' := by
  unfold FoundPost
  rw [hr]
  exact ⟨by rw [hx], hbs ▸ h⟩
set_option maxRecDepth 100000 in
set_option maxHeartbeats 600000 in
theorem RTake_still {n : Nat} {b : Bk} (h : Rtb w base own g t V) (hmax : t.bs.length ≤ 64) (s : ByteArray) (now : Int) (hm : t.most ≤ 2147483648) (hno : t.find s.data.toList = some n) (hb : t.bs[n]? = some b) (htok : 0 ≤ b.2.1 ∧ b.2.1 ≤ t.most) (hle : now ≤ b.2.2) :
    Calls Try.prog 13 #[.pointer (some ⟨g, 0, none⟩), .string s, .int .i64 now] w (FoundPost base g own t n b now w) := by
  have hv : findV t s.data.toList = (n : Int) := by unfold findV; rw [hno]
  have Hv := Lib.hid hv
  have hr : refilled t.most t.each b.2 now = b.2 := by unfold refilled; rw [if_pos hle]
  have Hr := Lib.hid hr
  have Hmax := Lib.hid hmax
  have f2 := h.field (i := 2) rfl
  obtain ⟨gV, c, hV, hoV, hgl, _⟩ := h.at_ hb
  subst hV
  obtain ⟨c0, c1, c2⟩ := h.cells hb
  have hz := h.unfrozenV
  have hnl := lt_of_get hb
  have hn0 : (0 : Int) ≤ (n : Int) := by omega
  have hn1 : (n : Int) < (t.bs.length : Int) := by omega
  have hn2 : (n : Int) < 64 := by omega
  have dn0 : decide ((n : Int) < 0) = false := decide_eq_false (by omega)
  have dl : decide (b.2.2 < now) = false := decide_eq_false (by omega)
  have Hh := Lib.hid h
  have Hb := Lib.hid hb
  by_cases h0 : b.2.1 = 0
  · have d0 : decide (b.2.1 < 1) = true := decide_eq_true (by omega)
    have H0 := Lib.hid h0
    clear hv hno hr h hb h0 hmax hm htok hle hnl
    go_enter Try.func13, Try.ntmps13
    go_wp2_with (go_at_call 19; go_must (refine (find_any Hh.out s Hmax.out).mono ?_; rintro e w1 ⟨rfl, rfl⟩; rw [Hv.out]))
    go_ret
    exact FoundPost.mk Hr.out (by rw [H0.out]; rfl) (by unfold took; rw [if_pos H0.out]; exact (set_same Hb.out).symm) ⟨own, _, Hh.out, Turns.refl _ _, fun k hk => .inl hk⟩
  · have d0 : decide (b.2.1 < 1) = false := decide_eq_false (by omega)
    have ht0 : 1 ≤ b.2.1 := by omega
    have ht1 : b.2.1 ≤ 2147483648 := by omega
    have H0 := Lib.hid h0
    have hst := h.stored (j := 1) (b' := (b.1, b.2.1 - 1, b.2.2)) hb (by decide) rfl
    have Hst := Lib.hid hst
    clear hv hno hr h hb h0 hmax hm htok hle hnl hst
    go_enter Try.func13, Try.ntmps13
    go_wp2_with (go_at_call 19; go_must (refine (find_any Hh.out s Hmax.out).mono ?_; rintro e w1 ⟨rfl, rfl⟩; rw [Hv.out]))
    go_ret
    exact FoundPost.mk Hr.out (by simp [H0.out]) (by unfold took; rw [if_neg H0.out]) ⟨own, _, Hst.out.1, Hst.out.2, fun k hk => .inl hk⟩
end Go.Proofs.Ytkbbelbcjokncaa
