/- The reference's Take: where the key has a bucket and time has gone by: some tokens come back. No conditions. -/
import Derived.Test.YtkbbelbcjokncaaR11
namespace Go.Proofs.Ytkbbelbcjokncaa
open Go.RowKit
variable {w w' : World} {base g : Nat} {own : Nat → Prop} {t : RT} {V : Value}
set_option maxRecDepth 100000 in
set_option maxHeartbeats 600000 in
theorem RTake_more {n : Nat} {b : Bk} (h : Rtb w base own g t V) (hmax : t.bs.length ≤ 64) (s : ByteArray) (now : Int) (hm : 1 ≤ t.most ∧ t.most ≤ 2147483648) (he : 0 ≤ t.each ∧ t.each ≤ 2147483648) (hno : t.find s.data.toList = some n) (hb : t.bs[n]? = some b) (htok : 0 ≤ b.2.1 ∧ b.2.1 ≤ t.most) (hl : -9223372036854775808 ≤ b.2.2) (hnow : now ≤ 9223372036854775807) (hlt : b.2.2 < now)
    (hf : 0 < t.each ∧ ¬ (t.most - b.2.1 + t.each - 1).tdiv t.each ≤ apartV (now - b.2.2)) (hp2 : b.2.1 + t.each * apartV (now - b.2.2) ≤ t.most) (hr : refilled t.most t.each b.2 now = (b.2.1 + t.each * apartV (now - b.2.2), now)) :
    Calls Try.prog 13 #[.pointer (some ⟨g, 0, none⟩), .string s, .int .i64 now] w (FoundPost base g own t n b now w) := by
  have hv : findV t s.data.toList = (n : Int) := by unfold findV; rw [hno]
  have Hv := Lib.hid hv
  have Hmax := Lib.hid hmax
  have f2 := h.field (i := 2) rfl
  have f1 := h.field (i := 1) rfl
  have f0 := h.field (i := 0) rfl
  obtain ⟨gV, c, hV, hoV, hgl, _⟩ := h.at_ hb
  subst hV
  obtain ⟨c0, c1, c2⟩ := h.cells hb
  have hnl := lt_of_get hb
  have hn0 : (0 : Int) ≤ (n : Int) := by omega
  have hn1 : (n : Int) < (t.bs.length : Int) := by omega
  have hn2 : (n : Int) < 64 := by omega
  have dn0 : decide ((n : Int) < 0) = false := decide_eq_false (by omega)
  have dl : decide (b.2.2 < now) = true := decide_eq_true (by omega)
  have de : decide (0 < t.each) = true := decide_eq_true hf.1
  have hec := hf.1
  have hq : (t.most - b.2.1 + t.each - 1).tdiv t.each = (t.most - b.2.1 + t.each - 1) / t.each := Int.tdiv_eq_ediv_of_nonneg (by omega)
  replace hf := hf.2
  have hap := fun w => apart_v b.2.2 now hl hnow hlt w
  obtain ⟨a, ha⟩ : ∃ a, apartV (now - b.2.2) = a := ⟨_, rfl⟩
  have hab := apartV_b (d := now - b.2.2) (by omega)
  rw [ha] at hap hf hab hp2 hr
  rw [hq] at hf
  have dq : decide ((t.most - b.2.1 + t.each - 1) / t.each ≤ a) = false := decide_eq_false hf
  have hp0 : 0 ≤ t.each * a := Int.mul_nonneg he.1 (by omega)
  have hp1 : t.each * a ≤ 2147483648 := by omega
  obtain ⟨x, hx⟩ : ∃ x, b.2.1 + t.each * a = x := ⟨_, rfl⟩
  have Hx := Lib.hid hx
  have Hr := Lib.hid hr
  have hm1 := hm.1
  have hm2 := hm.2
  have he1 := he.1
  have he2 := he.2
  have ht1 := htok.1
  have ht2 := htok.2
  have Hap := Lib.hid hap
  have Hh := Lib.hid h
  have Hb := Lib.hid hb
  clear hv hno hr h hb hmax hm he htok hl hnow hlt hf hnl hap ha hx hq
  go_enter Try.func13, Try.ntmps13
  go_wp2_with (go_at_call 19; go_must (refine (find_any Hh.out s Hmax.out).mono ?_; rintro e w1 ⟨rfl, rfl⟩; rw [Hv.out]))
  go_quiet ((exact (Hap.out _).mono fun e w2 h => ⟨h.1, _, h.2⟩))
  go_wp2
  have HR := Lib.hid (Hh.out.drewN nq)
  have HTq := Lib.hid (Turns.drew0 (own := own) w1 nq)
  refine AnyZ.start [19] (by kernel_rfl) rfl ?_
  apply AnyZ.pure (i := 0) rfl (by kernel_rfl) rfl rfl
  · intro w' K hK
    go_wp2
    exact hK
  · rfl
  apply AnyZ.pure (i := 1) rfl (by kernel_rfl) rfl rfl
  · intro w' K hK
    go_wp2
    exact hK
  · rfl
  apply AnyZ.pure (i := 2) rfl (by kernel_rfl) rfl rfl
  · intro w' K hK
    go_wp2
    exact hK
  · rfl
  apply AnyZ.pure (i := 3) rfl (by kernel_rfl) rfl rfl
  · intro w' K hK
    go_wp2
    exact hK
  · rfl
  apply AnyZ.take (i := 4) rfl (by kernel_rfl) (by kernel_rfl) rfl
  · intro w' hC K hK
    obtain ⟨c0, c1, c2⟩ := (HR.out.below hC).cells Hb.out
    go_wp2
    exact hK
  · rfl
  apply AnyZ.pure (i := 5) rfl (by kernel_rfl) rfl rfl
  · intro w' K hK
    go_wp2
    exact hK
  · rfl
  apply AnyZ.pure (i := 6) rfl (by kernel_rfl) rfl rfl
  · intro w' K hK
    go_wp2
    exact hK
  · rfl
  apply AnyZ.pure (i := 7) rfl (by kernel_rfl) rfl rfl
  · intro w' K hK
    go_wp2
    exact hK
  · rfl
  apply AnyZ.take (i := 8) rfl (by kernel_rfl) (by kernel_rfl) rfl
  · intro w' hC K hK
    have f1 := (HR.out.below hC).field (i := 1) rfl
    go_wp2
    exact hK
  · rfl
  apply AnyZ.pure (i := 9) rfl (by kernel_rfl) rfl rfl
  · intro w' K hK
    go_wp2
    exact hK
  · rfl
  apply AnyZ.pure (i := 10) rfl (by kernel_rfl) rfl rfl
  · intro w' K hK
    go_wp2
    exact hK
  · rfl
  apply AnyZ.pure (i := 11) rfl (by kernel_rfl) rfl rfl
  · intro w' K hK
    go_wp2
    exact hK
  · rfl
  apply AnyZ.take (i := 12) rfl (by kernel_rfl) (by kernel_rfl) rfl
  · intro w' hC K hK
    obtain ⟨c0, c1, c2⟩ := (HR.out.below hC).cells Hb.out
    go_wp2
    exact hK
  · rfl
  apply AnyZ.pure (i := 13) rfl (by kernel_rfl) rfl rfl
  · intro w' K hK
    go_wp2
    exact hK
  · rfl
  apply AnyZ.take (i := 14) rfl (by kernel_rfl) (by kernel_rfl) rfl
  · intro w' hC K hK
    go_wp2_with (go_at_call 21; go_must (refine (Hap.out _).mono ?_; rintro e w1 ⟨rfl, rfl⟩))
    exact hK
  · rfl
  apply AnyZ.pure (i := 15) rfl (by kernel_rfl) rfl rfl
  · intro w' K hK
    go_wp2
    exact hK
  · rfl
  apply AnyZ.pure (i := 16) rfl (by kernel_rfl) rfl rfl
  · intro w' K hK
    go_wp2
    exact hK
  · rfl
  apply AnyZ.pure (i := 17) rfl (by kernel_rfl) rfl rfl
  · intro w' K hK
    go_wp2
    exact hK
  · rfl
  apply AnyZ.pure (i := 18) rfl (by kernel_rfl) rfl rfl
  · intro w' K hK
    go_wp2
    exact hK
  · rfl
  apply AnyZ.soloW (i := 19) rfl (by kernel_rfl)
  intro w4 hC4
  have hR4 := HR.out.below hC4
  have hz4 := hR4.unfrozenV
  obtain ⟨c0, c1, c2⟩ := hR4.cells Hb.out
  have h1 := hR4.stored (j := 1) (v := .int .i64 x) (b' := (b.1, x, b.2.2)) Hb.out (by decide) rfl
  have H1 := Lib.hid h1
  have HT4 := Lib.hid (HTq.out.trans (Turns.of_below hC4))
  clear h1 hR4
  rw [Hx.out]
  go_wp2
  refine ⟨rfl, ?_⟩
  apply AnyW.done (by kernel_rfl)
  have hx0 : 0 ≤ x := by have := Hx.out; omega
  have hx1 : x ≤ 2147483648 := by have := Hx.out; omega
  generalize w4.setCell _ _ = w5 at *
  obtain ⟨h5, hT5⟩ := H1.out
  obtain ⟨c0, c1, c2⟩ := h5.cells (hn1' Hb.out)
  have hz5 := h5.unfrozenV
  have H5 := Lib.hid h5
  have HT5 := Lib.hid hT5
  clear h5 hT5 H1 hC4 hz4
  have h2 := three H5.out (j := 2) (v := .int .i64 now) (b' := (b.1, x, now)) (b := (b.1, x, b.2.2)) (hn1' Hb.out) (by decide) rfl
  have H2 := Lib.hid h2
  clear h2
  by_cases h0 : x = 0
  · have d0 : decide (x < 1) = true := decide_eq_true (by omega)
    have H0 := Lib.hid h0
    clear h0 hx0 hx1 hp2
    go_wp2
    go_ret
    exact FoundPost.mk Hr.out (by show false = decide (b.2.1 + t.each * a ≠ 0); rw [Hx.out, H0.out]; rfl) (by unfold took; rw [Hx.out, if_pos H0.out]) ⟨own, _, H2.out.1, HT4.out.trans (HT5.out.trans H2.out.2), fun k hk => .inl hk⟩
  · have d0 : decide (x < 1) = false := decide_eq_false (by omega)
    have H0 := Lib.hid h0
    clear h0
    go_wp2
    go_ret
    have h3 := three H2.out.1 (j := 1) (v := .int .i64 (x - 1)) (b' := (b.1, x - 1, now)) (b := (b.1, x, now)) (hn1' Hb.out) (by decide) rfl
    exact FoundPost.mk Hr.out (by show true = decide (b.2.1 + t.each * a ≠ 0); rw [Hx.out]; exact (decide_eq_true H0.out).symm) (by unfold took; rw [Hx.out, if_neg H0.out]) ⟨own, _, h3.1, HT4.out.trans (HT5.out.trans (H2.out.2.trans h3.2)), fun k hk => .inl hk⟩
set_option maxRecDepth 100000 in
set_option maxHeartbeats 600000 in
theorem RTake_none {n : Nat} {b : Bk} (h : Rtb w base own g t V) (hmax : t.bs.length ≤ 64) (s : ByteArray) (now : Int) (hm : 1 ≤ t.most ∧ t.most ≤ 2147483648) (he : 0 ≤ t.each ∧ t.each ≤ 2147483648) (hno : t.find s.data.toList = some n) (hb : t.bs[n]? = some b) (htok : 0 ≤ b.2.1 ∧ b.2.1 ≤ t.most) (hl : -9223372036854775808 ≤ b.2.2) (hnow : now ≤ 9223372036854775807) (hlt : b.2.2 < now)
    (hf : t.each = 0) (hp2 : b.2.1 + t.each * apartV (now - b.2.2) ≤ t.most) (hr : refilled t.most t.each b.2 now = (b.2.1 + t.each * apartV (now - b.2.2), now)) :
    Calls Try.prog 13 #[.pointer (some ⟨g, 0, none⟩), .string s, .int .i64 now] w (FoundPost base g own t n b now w) := by
  have hv : findV t s.data.toList = (n : Int) := by unfold findV; rw [hno]
  have Hv := Lib.hid hv
  have Hmax := Lib.hid hmax
  have f2 := h.field (i := 2) rfl
  have f1 := h.field (i := 1) rfl
  have f0 := h.field (i := 0) rfl
  obtain ⟨gV, c, hV, hoV, hgl, _⟩ := h.at_ hb
  subst hV
  obtain ⟨c0, c1, c2⟩ := h.cells hb
  have hnl := lt_of_get hb
  have hn0 : (0 : Int) ≤ (n : Int) := by omega
  have hn1 : (n : Int) < (t.bs.length : Int) := by omega
  have hn2 : (n : Int) < 64 := by omega
  have dn0 : decide ((n : Int) < 0) = false := decide_eq_false (by omega)
  have dl : decide (b.2.2 < now) = true := decide_eq_true (by omega)
  have de : decide (0 < t.each) = false := decide_eq_false (by omega)
  have hap := fun w => apart_v b.2.2 now hl hnow hlt w
  obtain ⟨a, ha⟩ : ∃ a, apartV (now - b.2.2) = a := ⟨_, rfl⟩
  have hab := apartV_b (d := now - b.2.2) (by omega)
  rw [ha] at hap hab hp2 hr
  have hp0 : 0 ≤ t.each * a := Int.mul_nonneg he.1 (by omega)
  have hp1 : t.each * a ≤ 2147483648 := by omega
  obtain ⟨x, hx⟩ : ∃ x, b.2.1 + t.each * a = x := ⟨_, rfl⟩
  have Hx := Lib.hid hx
  have Hr := Lib.hid hr
  have hm1 := hm.1
  have hm2 := hm.2
  have he1 := he.1
  have he2 := he.2
  have ht1 := htok.1
  have ht2 := htok.2
  have Hap := Lib.hid hap
  have Hh := Lib.hid h
  have Hb := Lib.hid hb
  clear hv hno hr h hb hmax hm he htok hl hnow hlt hf hnl hap ha hx
  go_enter Try.func13, Try.ntmps13
  go_wp2_with (go_at_call 19; go_must (refine (find_any Hh.out s Hmax.out).mono ?_; rintro e w1 ⟨rfl, rfl⟩; rw [Hv.out]))
  go_quiet (fail)
  go_wp2
  have HR := Lib.hid (Hh.out.drewN nq)
  have HTq := Lib.hid (Turns.drew0 (own := own) w1 nq)
  refine AnyZ.start [19] (by kernel_rfl) rfl ?_
  apply AnyZ.pure (i := 0) rfl (by kernel_rfl) rfl rfl
  · intro w' K hK
    go_wp2
    exact hK
  · rfl
  apply AnyZ.pure (i := 1) rfl (by kernel_rfl) rfl rfl
  · intro w' K hK
    go_wp2
    exact hK
  · rfl
  apply AnyZ.pure (i := 2) rfl (by kernel_rfl) rfl rfl
  · intro w' K hK
    go_wp2
    exact hK
  · rfl
  apply AnyZ.pure (i := 3) rfl (by kernel_rfl) rfl rfl
  · intro w' K hK
    go_wp2
    exact hK
  · rfl
  apply AnyZ.take (i := 4) rfl (by kernel_rfl) (by kernel_rfl) rfl
  · intro w' hC K hK
    obtain ⟨c0, c1, c2⟩ := (HR.out.below hC).cells Hb.out
    go_wp2
    exact hK
  · rfl
  apply AnyZ.pure (i := 5) rfl (by kernel_rfl) rfl rfl
  · intro w' K hK
    go_wp2
    exact hK
  · rfl
  apply AnyZ.pure (i := 6) rfl (by kernel_rfl) rfl rfl
  · intro w' K hK
    go_wp2
    exact hK
  · rfl
  apply AnyZ.pure (i := 7) rfl (by kernel_rfl) rfl rfl
  · intro w' K hK
    go_wp2
    exact hK
  · rfl
  apply AnyZ.take (i := 8) rfl (by kernel_rfl) (by kernel_rfl) rfl
  · intro w' hC K hK
    have f1 := (HR.out.below hC).field (i := 1) rfl
    go_wp2
    exact hK
  · rfl
  apply AnyZ.pure (i := 9) rfl (by kernel_rfl) rfl rfl
  · intro w' K hK
    go_wp2
    exact hK
  · rfl
  apply AnyZ.pure (i := 10) rfl (by kernel_rfl) rfl rfl
  · intro w' K hK
    go_wp2
    exact hK
  · rfl
  apply AnyZ.pure (i := 11) rfl (by kernel_rfl) rfl rfl
  · intro w' K hK
    go_wp2
    exact hK
  · rfl
  apply AnyZ.take (i := 12) rfl (by kernel_rfl) (by kernel_rfl) rfl
  · intro w' hC K hK
    obtain ⟨c0, c1, c2⟩ := (HR.out.below hC).cells Hb.out
    go_wp2
    exact hK
  · rfl
  apply AnyZ.pure (i := 13) rfl (by kernel_rfl) rfl rfl
  · intro w' K hK
    go_wp2
    exact hK
  · rfl
  apply AnyZ.take (i := 14) rfl (by kernel_rfl) (by kernel_rfl) rfl
  · intro w' hC K hK
    go_wp2_with (go_at_call 21; go_must (refine (Hap.out _).mono ?_; rintro e w1 ⟨rfl, rfl⟩))
    exact hK
  · rfl
  apply AnyZ.pure (i := 15) rfl (by kernel_rfl) rfl rfl
  · intro w' K hK
    go_wp2
    exact hK
  · rfl
  apply AnyZ.pure (i := 16) rfl (by kernel_rfl) rfl rfl
  · intro w' K hK
    go_wp2
    exact hK
  · rfl
  apply AnyZ.pure (i := 17) rfl (by kernel_rfl) rfl rfl
  · intro w' K hK
    go_wp2
    exact hK
  · rfl
  apply AnyZ.pure (i := 18) rfl (by kernel_rfl) rfl rfl
  · intro w' K hK
    go_wp2
    exact hK
  · rfl
  apply AnyZ.soloW (i := 19) rfl (by kernel_rfl)
  intro w4 hC4
  have hR4 := HR.out.below hC4
  have hz4 := hR4.unfrozenV
  obtain ⟨c0, c1, c2⟩ := hR4.cells Hb.out
  have h1 := hR4.stored (j := 1) (v := .int .i64 x) (b' := (b.1, x, b.2.2)) Hb.out (by decide) rfl
  have H1 := Lib.hid h1
  have HT4 := Lib.hid (HTq.out.trans (Turns.of_below hC4))
  clear h1 hR4
  rw [Hx.out]
  go_wp2
  refine ⟨rfl, ?_⟩
  apply AnyW.done (by kernel_rfl)
  have hx0 : 0 ≤ x := by have := Hx.out; omega
  have hx1 : x ≤ 2147483648 := by have := Hx.out; omega
  generalize w4.setCell _ _ = w5 at *
  obtain ⟨h5, hT5⟩ := H1.out
  obtain ⟨c0, c1, c2⟩ := h5.cells (hn1' Hb.out)
  have hz5 := h5.unfrozenV
  have H5 := Lib.hid h5
  have HT5 := Lib.hid hT5
  clear h5 hT5 H1 hC4 hz4
  have h2 := three H5.out (j := 2) (v := .int .i64 now) (b' := (b.1, x, now)) (b := (b.1, x, b.2.2)) (hn1' Hb.out) (by decide) rfl
  have H2 := Lib.hid h2
  clear h2
  by_cases h0 : x = 0
  · have d0 : decide (x < 1) = true := decide_eq_true (by omega)
    have H0 := Lib.hid h0
    clear h0 hx0 hx1 hp2
    go_wp2
    go_ret
    exact FoundPost.mk Hr.out (by show false = decide (b.2.1 + t.each * a ≠ 0); rw [Hx.out, H0.out]; rfl) (by unfold took; rw [Hx.out, if_pos H0.out]) ⟨own, _, H2.out.1, HT4.out.trans (HT5.out.trans H2.out.2), fun k hk => .inl hk⟩
  · have d0 : decide (x < 1) = false := decide_eq_false (by omega)
    have H0 := Lib.hid h0
    clear h0
    go_wp2
    go_ret
    have h3 := three H2.out.1 (j := 1) (v := .int .i64 (x - 1)) (b' := (b.1, x - 1, now)) (b := (b.1, x, now)) (hn1' Hb.out) (by decide) rfl
    exact FoundPost.mk Hr.out (by show true = decide (b.2.1 + t.each * a ≠ 0); rw [Hx.out]; exact (decide_eq_true H0.out).symm) (by unfold took; rw [Hx.out, if_neg H0.out]) ⟨own, _, h3.1, HT4.out.trans (HT5.out.trans (H2.out.2.trans h3.2)), fun k hk => .inl hk⟩
end Go.Proofs.Ytkbbelbcjokncaa
