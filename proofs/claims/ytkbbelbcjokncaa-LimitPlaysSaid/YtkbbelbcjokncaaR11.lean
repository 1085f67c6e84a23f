/- The reference's Take: where the key has a bucket and time has gone by: the bucket is full again. No conditions. -/
import Derived.Test.YtkbbelbcjokncaaR10
namespace Go.Proofs.Ytkbbelbcjokncaa
open Go.RowKit
variable {w w' : World} {base g : Nat} {own : Nat → Prop} {t : RT} {V : Value}
theorem apart_v (a b : Int) (ha : -9223372036854775808 ≤ a) (hb : b ≤ 9223372036854775807) (hab : a < b) (w : World) : Calls Try.prog 21 #[.int .i64 a, .int .i64 b] w fun e w' => e = .returned (.int .i64 (apartV (b - a))) ∧ w' = w :=
  apart_any a b ha hb hab w
theorem apartV_b {d : Int} (h : 0 < d) : 1 ≤ apartV d ∧ apartV d ≤ 4294967296 := by unfold apartV; split <;> omega
theorem Turns.drew0 (w : World) (q : Nat) : Turns own w (w.drewN q) := ⟨rfl, rfl, rfl, Nat.le_refl _, fun _ _ _ => rfl⟩
theorem hn1' {l : List Bk} {n : Nat} {b b' : Bk} (h : l[n]? = some b) : (l.set n b')[n]? = some b' := by rw [List.getElem?_set_self (lt_of_get h)]
theorem three {gV c n j : Nat} {l : List Bk} {b b' : Bk} {v : Value} (h : Rtb w base own g { t with bs := l.set n b } (.slice (some ⟨gV, 0, none⟩) l.length c)) (hk : (l.set n b)[n]? = some b) (hj : j < 3)
    (hv : ([.string b.1, .int .i64 b.2.1, .int .i64 b.2.2] : List Value).set j v = [.string b'.1, .int .i64 b'.2.1, .int .i64 b'.2.2]) :
    Rtb (w.setCell ⟨gV, n * 3 + j, none⟩ v) base own g { t with bs := l.set n b' } (.slice (some ⟨gV, 0, none⟩) l.length c) ∧ Turns own w (w.setCell ⟨gV, n * 3 + j, none⟩ v) := by
  have hl : (l.set n b).length = l.length := List.length_set ..
  have h1 := Rtb.stored (t := { t with bs := l.set n b }) (c := c) (gV := gV) (by show Rtb w base own g _ (.slice _ (l.set n b).length c); rw [hl]; exact h) hk hj hv
  simp only [List.set_set, hl] at h1
  exact h1
set_option maxRecDepth 100000 in
set_option maxHeartbeats 600000 in
theorem RTake_fill {n : Nat} {b : Bk} (h : Rtb w base own g t V) (hmax : t.bs.length ≤ 64) (s : ByteArray) (now : Int) (hm : 1 ≤ t.most ∧ t.most ≤ 2147483648) (he : 0 < t.each ∧ t.each ≤ 2147483648) (hno : t.find s.data.toList = some n) (hb : t.bs[n]? = some b) (htok : 0 ≤ b.2.1 ∧ b.2.1 ≤ t.most) (hl : -9223372036854775808 ≤ b.2.2) (hnow : now ≤ 9223372036854775807) (hlt : b.2.2 < now)
    (hf : (t.most - b.2.1 + t.each - 1).tdiv t.each ≤ apartV (now - b.2.2)) :
    Calls Try.prog 13 #[.pointer (some ⟨g, 0, none⟩), .string s, .int .i64 now] w (FoundPost base g own t n b now w) := by
  have hv : findV t s.data.toList = (n : Int) := by unfold findV; rw [hno]
  have Hv := Lib.hid hv
  have hr : refilled t.most t.each b.2 now = (t.most, now) := by
    unfold refilled
    rw [if_neg (by omega)]
    have := ref_fill htok hm.2 he.1 (d := now - b.2.2)
    rw [if_pos hf] at this
    rw [← this]
  have Hr := Lib.hid hr
  have Hmax := Lib.hid hmax
  have f2 := h.field (i := 2) rfl
  have f1 := h.field (i := 1) rfl
  have f0 := h.field (i := 0) rfl
  obtain ⟨gV, c, hV, hoV, hgl, _⟩ := h.at_ hb
  subst hV
  obtain ⟨c0, c1, c2⟩ := h.cells hb
  have hz := h.unfrozenV
  have hnl := lt_of_get hb
  have hn0 : (0 : Int) ≤ (n : Int) := by omega
  have hn1 : (n : Int) < (t.bs.length : Int) := by omega
  have hn2 : (n : Int) < 64 := by omega
  have dn0 : decide ((n : Int) < 0) = false := decide_eq_false (by omega)
  have dl : decide (b.2.2 < now) = true := decide_eq_true (by omega)
  have de : decide (0 < t.each) = true := decide_eq_true he.1
  have dm : decide (t.most < 1) = false := decide_eq_false (by omega)
  have hap := fun w => apart_v b.2.2 now hl hnow hlt w
  obtain ⟨a, ha⟩ : ∃ a, apartV (now - b.2.2) = a := ⟨_, rfl⟩
  rw [ha] at hap hf
  have hab := apartV_b (d := now - b.2.2) (by omega)
  rw [ha] at hab
  have hm1 := hm.1
  have hm2 := hm.2
  have he1 := he.1
  have he2 := he.2
  have ht1 := htok.1
  have ht2 := htok.2
  have hq : (t.most - b.2.1 + t.each - 1).tdiv t.each = (t.most - b.2.1 + t.each - 1) / t.each := Int.tdiv_eq_ediv_of_nonneg (by omega)
  rw [hq] at hf
  have dq : decide ((t.most - b.2.1 + t.each - 1) / t.each ≤ a) = true := decide_eq_true hf
  have Hap := Lib.hid hap
  have Hh := Lib.hid h
  have Hb := Lib.hid hb
  clear hv hno hr h hb hmax hm he htok hl hnow hlt hf hnl hap ha hq
  go_enter Try.func13, Try.ntmps13
  go_wp2_with (go_at_call 19; go_must (refine (find_any Hh.out s Hmax.out).mono ?_; rintro e w1 ⟨rfl, rfl⟩; rw [Hv.out]))
  go_quiet ((exact (Hap.out _).mono fun e w2 h => ⟨h.1, _, h.2⟩))
  go_wp2
  go_ret
  have h0 := (Hh.out.drewN nq)
  have h1 := h0.stored (j := 1) (v := .int .i64 t.most) (b' := (b.1, t.most, b.2.2)) Hb.out (by decide) rfl
  have h2 := (three h1.1 (j := 2) (v := .int .i64 now) (b' := (b.1, t.most, now)) (b := (b.1, t.most, b.2.2)) (hn1' Hb.out) (by decide) rfl)
  have h3 := (three h2.1 (j := 1) (v := .int .i64 (t.most - 1)) (b' := (b.1, t.most - 1, now)) (b := (b.1, t.most, now)) (hn1' Hb.out) (by decide) rfl)
  refine FoundPost.mk Hr.out ?_ ?_ ⟨own, _, h3.1, (Turns.drew0 w1 nq).trans (h1.2.trans (h2.2.trans h3.2)), fun k hk => .inl hk⟩
  · exact (decide_eq_true (by show t.most ≠ 0; omega)).symm
  · unfold took; rw [if_neg (by show t.most ≠ 0; omega)]
end Go.Proofs.Ytkbbelbcjokncaa
