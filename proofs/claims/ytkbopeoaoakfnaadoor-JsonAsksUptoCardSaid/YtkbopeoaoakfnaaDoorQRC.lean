/- The texts RR6 of this work, merged by wip/merge.py. No conditions. -/
import Derived.Test.YtkbopeoaoakfnaaDoorQRB
import Derived.Test.YtkbopeoaoakfnaaDoorQKA
namespace Go.Proofs.YtkbopeoaoakfnaaDoor
open Go.RowKit
/-- What the reference's escape leaves. -/
def RescPost (w0 : World) (g : Nat) (sb : ByteArray) (s : List UInt8) (k : Nat) (d : Int) (lg : Bool) (e : Ending) (w' : World) : Prop :=
  (∃ (x : List UInt8) (k' : Nat), escP s k = some (x, k') ∧ e = .returned (.tuple #[.string ⟨x.toArray⟩, .bool true]) ∧ RA w0 g sb w' k' d lg) ∨ (escP s k = none ∧ ∃ y, e = .returned (.tuple #[.string y, .bool false]) ∧ RA w0 g sb w' k d lg)
section
variable {w0 w w' : World} {g : Nat} {sb : ByteArray} {k : Nat} {d : Int} {lg : Bool} {s : List UInt8}
theorem RescPost.yes {x : List UInt8} {k' : Nat} {y : ByteArray} (h : escP s k = some (x, k')) (hx : y = ⟨x.toArray⟩) (h2 : RA w0 g sb w' k' d lg) : RescPost w0 g sb s k d lg (.returned (.tuple #[.string y, .bool true])) w' := .inl ⟨x, k', h, by rw [hx], h2⟩
theorem RescPost.no {y : ByteArray} (h : escP s k = none) (h2 : RA w0 g sb w' k d lg) : RescPost w0 g sb s k d lg (.returned (.tuple #[.string y, .bool false])) w' := .inr ⟨h, y, rfl, h2⟩
theorem RA.putz (h : RA w0 g sb w k d lg) {k' : Nat} {z : Int} (hz : z = (k' : Int)) (hk : k' ≤ sb.size) : RA w0 g sb (w.setCell ⟨g, 1, none⟩ (.int .i64 z)) k' d lg := by subst hz; exact h.put hk
theorem codeP_none {s : List UInt8} {k : Nat} {c : UInt8} (h : s[k + 1]? = some c) (hc : c ≠ 117) : codeP s k = -1 := by
  unfold codeP
  by_cases hl : s.length < k + 6
  · rw [if_pos (Or.inl hl)]
  · have h1 : k < s.length := by omega
    have h2 : k + 1 < s.length := by omega
    rw [List.getElem?_eq_getElem h2] at h
    have h3 := Option.some.inj h
    refine if_pos (Or.inr ?_)
    rw [List.drop_eq_getElem_cons h1, List.drop_eq_getElem_cons h2, h3]
    intro h4
    exact hc (List.cons.inj (List.cons.inj h4).2).1
theorem escU_neg {s : List UInt8} {k : Nat} (h : codeP s k = -1) : escU s k = none := by
  unfold escU
  rw [h, if_neg (by decide), if_pos (Or.inl (by decide))]
theorem escP_single {s : List UInt8} {k : Nat} {c b : UInt8} (h : s[k + 1]? = some c) (hb : single c = some b) : escP s k = some ([b], k + 2) := by
  unfold escP
  rw [h]
  show (match single c with | some b => some ([b], k + 2) | none => escU s k) = _
  rw [hb]
theorem escP_other {s : List UInt8} {k : Nat} {c : UInt8} (h : s[k + 1]? = some c) (hb : single c = none) : escP s k = escU s k := by
  unfold escP
  rw [h]
  show (match single c with | some b => some ([b], k + 2) | none => escU s k) = _
  rw [hb]
theorem escP_end {s : List UInt8} {k : Nat} (h : s[k + 1]? = none) : escP s k = none := by
  have h1 : s.length ≤ k + 1 := List.getElem?_eq_none_iff.1 h
  have h2 : codeP s k = -1 := by unfold codeP; rw [if_pos (Or.inl (by omega))]
  unfold escP
  rw [h]
  exact escU_neg h2
theorem here1 {sb : ByteArray} {s : List UInt8} {k : Nat} {c : UInt8} (hs : sb = ⟨s.toArray⟩) (h : s[k]? = some c) : k < sb.size ∧ ∀ h0 : k < sb.size, sb[k]'h0 = c := by
  have h1 : k < s.length := by
    rcases Nat.lt_or_ge k s.length with h' | h'
    · exact h'
    · rw [List.getElem?_eq_none h'] at h; cases h
  subst hs
  refine ⟨by simpa [ByteArray.size] using h1, fun h0 => ?_⟩
  rw [List.getElem?_eq_getElem h1] at h
  exact Option.some.inj h
theorem four_q {sb : ByteArray} {s : List UInt8} (hs : sb = ⟨s.toArray⟩) (hl : sb.size ≤ 8192) (k : Nat) (hk : k ≤ 10000) {z C : Int} (hz : z = (k : Int)) (hC : C = codeP s k) (w : World) : Calls Tryd.prog 110 #[.string sb, .int .i64 z] w fun e w' => e = .returned (.int .i64 C) ∧ w' = w := by subst hz hC; exact four_any hs hl k hk w
theorem utf8_z (v : Nat) (hv : v ≤ 1114111) (hs : v < 55296 ∨ 57343 < v) {z : Int} (hz : z = (v : Int)) (w : World) : Calls Tryd.prog 55 #[.int .i64 z] w fun e w' => e = .returned (.string ⟨(Lib.encodeRune (v : Int)).toArray⟩) ∧ Below w.heap.size w w' := by subst hz; exact utf8_any v hv hs w
theorem ne_num {c n : UInt8} (h : c ≠ n) : ((c.toNat : Int) == (n.toNat : Int)) = false := by
  have : c.toNat ≠ n.toNat := fun e => h (UInt8.toNat_inj.1 e)
  simp; omega
theorem single_nums {c : UInt8} (h : single c = none) : ((c.toNat : Int) == 34) = false ∧ ((c.toNat : Int) == 92) = false ∧ ((c.toNat : Int) == 47) = false ∧ ((c.toNat : Int) == 98) = false ∧ ((c.toNat : Int) == 102) = false ∧ ((c.toNat : Int) == 110) = false ∧ ((c.toNat : Int) == 114) = false ∧ ((c.toNat : Int) == 116) = false := by
  unfold single at h
  by_cases h0 : c = 34
  · rw [if_pos h0] at h; cases h
  rw [if_neg h0] at h
  by_cases h1 : c = 92
  · rw [if_pos h1] at h; cases h
  rw [if_neg h1] at h
  by_cases h2 : c = 47
  · rw [if_pos h2] at h; cases h
  rw [if_neg h2] at h
  by_cases h3 : c = 98
  · rw [if_pos h3] at h; cases h
  rw [if_neg h3] at h
  by_cases h4 : c = 102
  · rw [if_pos h4] at h; cases h
  rw [if_neg h4] at h
  by_cases h5 : c = 110
  · rw [if_pos h5] at h; cases h
  rw [if_neg h5] at h
  by_cases h6 : c = 114
  · rw [if_pos h6] at h; cases h
  rw [if_neg h6] at h
  by_cases h7 : c = 116
  · rw [if_pos h7] at h; cases h
  rw [if_neg h7] at h
  exact ⟨ne_num h0, ne_num h1, ne_num h2, ne_num h3, ne_num h4, ne_num h5, ne_num h6, ne_num h7⟩
set_option maxRecDepth 100000 in
set_option maxHeartbeats 400000 in
theorem resc_end (h : RA w0 g sb w k d lg) (hs : sb = ⟨s.toArray⟩) (hc : s[k + 1]? = none) : Calls Tryd.prog 89 #[.pointer (some ⟨g, 0, none⟩)] w fun e w' => RescPost w0 g sb s k d lg e w' := by
  obtain ⟨c0, c1, c2, c3, fz⟩ := h.cells
  obtain ⟨k0, k1, k2⟩ := h.kI
  have hsz : sb.size = s.length := by rw [hs]; simp [ByteArray.size]
  have H := Lib.hid h
  have HE := Lib.hid (escP_end hc)
  have h1 : s.length ≤ k + 1 := List.getElem?_eq_none_iff.1 hc
  have d1 : decide ((k : Int) + 1 ≥ (sb.size : Int)) = true := by simp; omega
  have d2 : (sb.size : Int) ≤ (k : Int) + 1 := by omega
  clear hc hs hsz h1 h
  go_enter Tryd.func89, Tryd.ntmps89
  go_wp2
  go_quiet (fail)
  go_wp2
  go_ret2
  exact RescPost.no HE.out (H.out.drewN _)
set_option maxRecDepth 100000 in
set_option maxHeartbeats 400000 in
theorem resc_34 (h : RA w0 g sb w k d lg) (hs : sb = ⟨s.toArray⟩) (hc : s[k + 1]? = some 34) : Calls Tryd.prog 89 #[.pointer (some ⟨g, 0, none⟩)] w fun e w' => RescPost w0 g sb s k d lg e w' := by
  obtain ⟨c0, c1, c2, c3, fz⟩ := h.cells
  obtain ⟨k0, k1, k2⟩ := h.kI
  obtain ⟨hl1, hg1⟩ := here1 hs hc
  have H := Lib.hid h
  have HL1 := Lib.hid hl1
  have hlI : (k : Int) + 1 < (sb.size : Int) := by omega
  have d1 : decide ((k : Int) + 1 ≥ (sb.size : Int)) = false := by simp; omega
  have HE := Lib.hid (escP_single hc (show single 34 = some 34 by decide))
  have hx : sb.extract (k + 1) (k + 2) = ⟨([34] : List UInt8).toArray⟩ := by
    have h1 : k + 1 < s.length := by rw [hs] at hl1; simpa [ByteArray.size] using hl1
    rw [List.getElem?_eq_getElem h1] at hc
    rw [hs, extract_mid, show k + 2 - (k + 1) = 1 by omega, List.drop_eq_getElem_cons h1, Option.some.inj hc]
    rfl
  obtain ⟨XB, hXB⟩ : ∃ XB : ByteArray, XB = sb.extract (k + 1) (k + 2) := ⟨_, rfl⟩
  have hsf := fun w => slice_fact sb (k + 1) (k + 2) (by omega) (by omega) ((k : Int) + 1) ((k : Int) + 2) (by omega) (by omega) w
  rw [← hXB] at hsf hx
  have HX := Lib.hid hx
  clear hx hXB
  clear hc hs hl1 h
  go_enter Tryd.func89, Tryd.ntmps89
  go_wp2
  go_quiet (fail)
  go_wp2
  go_quiet (fail)
  go_wp2
  go_quiet (fail)
  go_wp2
  go_ret2
  exact RescPost.yes HE.out HX.out (RA.putz (k := k) (by first | exact ((H.out.drewN _).drewN _).drewN _ | exact (H.out.drewN _).drewN _ | exact H.out.drewN _) (by omega) (by have := HL1.out; omega))
set_option maxRecDepth 100000 in
set_option maxHeartbeats 400000 in
theorem resc_92 (h : RA w0 g sb w k d lg) (hs : sb = ⟨s.toArray⟩) (hc : s[k + 1]? = some 92) : Calls Tryd.prog 89 #[.pointer (some ⟨g, 0, none⟩)] w fun e w' => RescPost w0 g sb s k d lg e w' := by
  obtain ⟨c0, c1, c2, c3, fz⟩ := h.cells
  obtain ⟨k0, k1, k2⟩ := h.kI
  obtain ⟨hl1, hg1⟩ := here1 hs hc
  have H := Lib.hid h
  have HL1 := Lib.hid hl1
  have hlI : (k : Int) + 1 < (sb.size : Int) := by omega
  have d1 : decide ((k : Int) + 1 ≥ (sb.size : Int)) = false := by simp; omega
  have HE := Lib.hid (escP_single hc (show single 92 = some 92 by decide))
  have hx : sb.extract (k + 1) (k + 2) = ⟨([92] : List UInt8).toArray⟩ := by
    have h1 : k + 1 < s.length := by rw [hs] at hl1; simpa [ByteArray.size] using hl1
    rw [List.getElem?_eq_getElem h1] at hc
    rw [hs, extract_mid, show k + 2 - (k + 1) = 1 by omega, List.drop_eq_getElem_cons h1, Option.some.inj hc]
    rfl
  obtain ⟨XB, hXB⟩ : ∃ XB : ByteArray, XB = sb.extract (k + 1) (k + 2) := ⟨_, rfl⟩
  have hsf := fun w => slice_fact sb (k + 1) (k + 2) (by omega) (by omega) ((k : Int) + 1) ((k : Int) + 2) (by omega) (by omega) w
  rw [← hXB] at hsf hx
  have HX := Lib.hid hx
  clear hx hXB
  clear hc hs hl1 h
  go_enter Tryd.func89, Tryd.ntmps89
  go_wp2
  go_quiet (fail)
  go_wp2
  go_quiet (fail)
  go_wp2
  go_quiet (fail)
  go_wp2
  go_ret2
  exact RescPost.yes HE.out HX.out (RA.putz (k := k) (by first | exact ((H.out.drewN _).drewN _).drewN _ | exact (H.out.drewN _).drewN _ | exact H.out.drewN _) (by omega) (by have := HL1.out; omega))
set_option maxRecDepth 100000 in
set_option maxHeartbeats 400000 in
theorem resc_47 (h : RA w0 g sb w k d lg) (hs : sb = ⟨s.toArray⟩) (hc : s[k + 1]? = some 47) : Calls Tryd.prog 89 #[.pointer (some ⟨g, 0, none⟩)] w fun e w' => RescPost w0 g sb s k d lg e w' := by
  obtain ⟨c0, c1, c2, c3, fz⟩ := h.cells
  obtain ⟨k0, k1, k2⟩ := h.kI
  obtain ⟨hl1, hg1⟩ := here1 hs hc
  have H := Lib.hid h
  have HL1 := Lib.hid hl1
  have hlI : (k : Int) + 1 < (sb.size : Int) := by omega
  have d1 : decide ((k : Int) + 1 ≥ (sb.size : Int)) = false := by simp; omega
  have HE := Lib.hid (escP_single hc (show single 47 = some 47 by decide))
  have hx : sb.extract (k + 1) (k + 2) = ⟨([47] : List UInt8).toArray⟩ := by
    have h1 : k + 1 < s.length := by rw [hs] at hl1; simpa [ByteArray.size] using hl1
    rw [List.getElem?_eq_getElem h1] at hc
    rw [hs, extract_mid, show k + 2 - (k + 1) = 1 by omega, List.drop_eq_getElem_cons h1, Option.some.inj hc]
    rfl
  obtain ⟨XB, hXB⟩ : ∃ XB : ByteArray, XB = sb.extract (k + 1) (k + 2) := ⟨_, rfl⟩
  have hsf := fun w => slice_fact sb (k + 1) (k + 2) (by omega) (by omega) ((k : Int) + 1) ((k : Int) + 2) (by omega) (by omega) w
  rw [← hXB] at hsf hx
  have HX := Lib.hid hx
  clear hx hXB
  clear hc hs hl1 h
  go_enter Tryd.func89, Tryd.ntmps89
  go_wp2
  go_quiet (fail)
  go_wp2
  go_quiet (fail)
  go_wp2
  go_quiet (fail)
  go_wp2
  go_ret2
  exact RescPost.yes HE.out HX.out (RA.putz (k := k) (by first | exact ((H.out.drewN _).drewN _).drewN _ | exact (H.out.drewN _).drewN _ | exact H.out.drewN _) (by omega) (by have := HL1.out; omega))
set_option maxRecDepth 100000 in
set_option maxHeartbeats 400000 in
theorem resc_98 (h : RA w0 g sb w k d lg) (hs : sb = ⟨s.toArray⟩) (hc : s[k + 1]? = some 98) : Calls Tryd.prog 89 #[.pointer (some ⟨g, 0, none⟩)] w fun e w' => RescPost w0 g sb s k d lg e w' := by
  obtain ⟨c0, c1, c2, c3, fz⟩ := h.cells
  obtain ⟨k0, k1, k2⟩ := h.kI
  obtain ⟨hl1, hg1⟩ := here1 hs hc
  have H := Lib.hid h
  have HL1 := Lib.hid hl1
  have hlI : (k : Int) + 1 < (sb.size : Int) := by omega
  have d1 : decide ((k : Int) + 1 ≥ (sb.size : Int)) = false := by simp; omega
  have HE := Lib.hid (escP_single hc (show single 98 = some 8 by decide))
  clear hc hs hl1 h
  go_enter Tryd.func89, Tryd.ntmps89
  go_wp2
  go_quiet (fail)
  go_wp2
  go_quiet (fail)
  go_wp2
  go_ret2
  exact RescPost.yes HE.out rfl (RA.putz (k := k) (by first | exact ((H.out.drewN _).drewN _).drewN _ | exact (H.out.drewN _).drewN _ | exact H.out.drewN _) (by omega) (by have := HL1.out; omega))
set_option maxRecDepth 100000 in
set_option maxHeartbeats 400000 in
theorem resc_102 (h : RA w0 g sb w k d lg) (hs : sb = ⟨s.toArray⟩) (hc : s[k + 1]? = some 102) : Calls Tryd.prog 89 #[.pointer (some ⟨g, 0, none⟩)] w fun e w' => RescPost w0 g sb s k d lg e w' := by
  obtain ⟨c0, c1, c2, c3, fz⟩ := h.cells
  obtain ⟨k0, k1, k2⟩ := h.kI
  obtain ⟨hl1, hg1⟩ := here1 hs hc
  have H := Lib.hid h
  have HL1 := Lib.hid hl1
  have hlI : (k : Int) + 1 < (sb.size : Int) := by omega
  have d1 : decide ((k : Int) + 1 ≥ (sb.size : Int)) = false := by simp; omega
  have HE := Lib.hid (escP_single hc (show single 102 = some 12 by decide))
  clear hc hs hl1 h
  go_enter Tryd.func89, Tryd.ntmps89
  go_wp2
  go_quiet (fail)
  go_wp2
  go_quiet (fail)
  go_wp2
  go_ret2
  exact RescPost.yes HE.out rfl (RA.putz (k := k) (by first | exact ((H.out.drewN _).drewN _).drewN _ | exact (H.out.drewN _).drewN _ | exact H.out.drewN _) (by omega) (by have := HL1.out; omega))
set_option maxRecDepth 100000 in
set_option maxHeartbeats 400000 in
theorem resc_110 (h : RA w0 g sb w k d lg) (hs : sb = ⟨s.toArray⟩) (hc : s[k + 1]? = some 110) : Calls Tryd.prog 89 #[.pointer (some ⟨g, 0, none⟩)] w fun e w' => RescPost w0 g sb s k d lg e w' := by
  obtain ⟨c0, c1, c2, c3, fz⟩ := h.cells
  obtain ⟨k0, k1, k2⟩ := h.kI
  obtain ⟨hl1, hg1⟩ := here1 hs hc
  have H := Lib.hid h
  have HL1 := Lib.hid hl1
  have hlI : (k : Int) + 1 < (sb.size : Int) := by omega
  have d1 : decide ((k : Int) + 1 ≥ (sb.size : Int)) = false := by simp; omega
  have HE := Lib.hid (escP_single hc (show single 110 = some 10 by decide))
  clear hc hs hl1 h
  go_enter Tryd.func89, Tryd.ntmps89
  go_wp2
  go_quiet (fail)
  go_wp2
  go_quiet (fail)
  go_wp2
  go_ret2
  exact RescPost.yes HE.out rfl (RA.putz (k := k) (by first | exact ((H.out.drewN _).drewN _).drewN _ | exact (H.out.drewN _).drewN _ | exact H.out.drewN _) (by omega) (by have := HL1.out; omega))
set_option maxRecDepth 100000 in
set_option maxHeartbeats 400000 in
theorem resc_114 (h : RA w0 g sb w k d lg) (hs : sb = ⟨s.toArray⟩) (hc : s[k + 1]? = some 114) : Calls Tryd.prog 89 #[.pointer (some ⟨g, 0, none⟩)] w fun e w' => RescPost w0 g sb s k d lg e w' := by
  obtain ⟨c0, c1, c2, c3, fz⟩ := h.cells
  obtain ⟨k0, k1, k2⟩ := h.kI
  obtain ⟨hl1, hg1⟩ := here1 hs hc
  have H := Lib.hid h
  have HL1 := Lib.hid hl1
  have hlI : (k : Int) + 1 < (sb.size : Int) := by omega
  have d1 : decide ((k : Int) + 1 ≥ (sb.size : Int)) = false := by simp; omega
  have HE := Lib.hid (escP_single hc (show single 114 = some 13 by decide))
  clear hc hs hl1 h
  go_enter Tryd.func89, Tryd.ntmps89
  go_wp2
  go_quiet (fail)
  go_wp2
  go_quiet (fail)
  go_wp2
  go_ret2
  exact RescPost.yes HE.out rfl (RA.putz (k := k) (by first | exact ((H.out.drewN _).drewN _).drewN _ | exact (H.out.drewN _).drewN _ | exact H.out.drewN _) (by omega) (by have := HL1.out; omega))
set_option maxRecDepth 100000 in
set_option maxHeartbeats 400000 in
theorem resc_116 (h : RA w0 g sb w k d lg) (hs : sb = ⟨s.toArray⟩) (hc : s[k + 1]? = some 116) : Calls Tryd.prog 89 #[.pointer (some ⟨g, 0, none⟩)] w fun e w' => RescPost w0 g sb s k d lg e w' := by
  obtain ⟨c0, c1, c2, c3, fz⟩ := h.cells
  obtain ⟨k0, k1, k2⟩ := h.kI
  obtain ⟨hl1, hg1⟩ := here1 hs hc
  have H := Lib.hid h
  have HL1 := Lib.hid hl1
  have hlI : (k : Int) + 1 < (sb.size : Int) := by omega
  have d1 : decide ((k : Int) + 1 ≥ (sb.size : Int)) = false := by simp; omega
  have HE := Lib.hid (escP_single hc (show single 116 = some 9 by decide))
  clear hc hs hl1 h
  go_enter Tryd.func89, Tryd.ntmps89
  go_wp2
  go_quiet (fail)
  go_wp2
  go_quiet (fail)
  go_wp2
  go_ret2
  exact RescPost.yes HE.out rfl (RA.putz (k := k) (by first | exact ((H.out.drewN _).drewN _).drewN _ | exact (H.out.drewN _).drewN _ | exact H.out.drewN _) (by omega) (by have := HL1.out; omega))
set_option maxRecDepth 100000 in
set_option maxHeartbeats 400000 in
theorem resc_none {c : UInt8} (h : RA w0 g sb w k d lg) (hs : sb = ⟨s.toArray⟩) (hc : s[k + 1]? = some c) (hsn : single c = none) (hu : c ≠ 117) : Calls Tryd.prog 89 #[.pointer (some ⟨g, 0, none⟩)] w fun e w' => RescPost w0 g sb s k d lg e w' := by
  obtain ⟨c0, c1, c2, c3, fz⟩ := h.cells
  obtain ⟨k0, k1, k2⟩ := h.kI
  obtain ⟨hl1, hg1⟩ := here1 hs hc
  have H := Lib.hid h
  have HL1 := Lib.hid hl1
  have hlI : (k : Int) + 1 < (sb.size : Int) := by omega
  have d1 : decide ((k : Int) + 1 ≥ (sb.size : Int)) = false := by simp; omega
  have HE : Hid (escP s k = none) := by show _ = _; rw [escP_other hc hsn]; exact escU_neg (codeP_none hc hu)
  obtain ⟨n34, n92, n47, n98, n102, n110, n114, n116⟩ := single_nums hsn
  have n117 : ((c.toNat : Int) == 117) = false := by
    have : c.toNat ≠ 117 := fun e => hu (UInt8.toNat_inj.1 (by simpa using e))
    simp; omega
  clear hc hs hl1 h hsn hu
  go_enter Tryd.func89, Tryd.ntmps89
  go_wp2
  go_quiet (fail)
  go_wp2
  go_quiet (fail)
  go_wp2
  go_ret2
  exact RescPost.no HE.out (by first | exact (H.out.drewN _).drewN _ | exact H.out.drewN _)
set_option maxRecDepth 100000 in
set_option maxHeartbeats 800000 in
theorem resc_u (h : RA w0 g sb w k d lg) (hs : sb = ⟨s.toArray⟩) (hc : s[k + 1]? = some 117) : Calls Tryd.prog 89 #[.pointer (some ⟨g, 0, none⟩)] w fun e w' => RescPost w0 g sb s k d lg e w' := by
  obtain ⟨c0, c1, c2, c3, fz⟩ := h.cells
  obtain ⟨k0, k1, k2⟩ := h.kI
  obtain ⟨hl1, hg1⟩ := here1 hs hc
  have H := Lib.hid h
  have HL1 := Lib.hid hl1
  have hlI : (k : Int) + 1 < (sb.size : Int) := by omega
  have d1 : decide ((k : Int) + 1 ≥ (sb.size : Int)) = false := by simp; omega
  have hEU : escP s k = escU s k := escP_other hc (by decide)
  have HS := Lib.hid hs
  obtain ⟨C, hC⟩ : ∃ C, C = codeP s k := ⟨_, rfl⟩
  obtain ⟨D, hD⟩ : ∃ D, D = codeP s (k + 6) := ⟨_, rfl⟩
  have bC := codeP_bd s k
  have bD := codeP_bd s (k + 6)
  have lC := codeP_len (s := s) (k := k)
  have lD := codeP_len (s := s) (k := k + 6)
  rw [← hC] at bC lC
  rw [← hD] at bD lD
  obtain ⟨bC0, bC1⟩ := bC
  obtain ⟨bD0, bD1⟩ := bD
  have HC := Lib.hid hC
  have HD := Lib.hid hD
  have LC := Lib.hid lC
  have LD := Lib.hid lD
  have hSZ : sb.size = s.length := by rw [hs]; simp [ByteArray.size]
  have HSZ := Lib.hid hSZ
  have HU : Hid (escP s k = if 55296 ≤ C ∧ C < 56320 then (if 56320 ≤ D ∧ D < 57344 then some (Lib.encodeRune (65536 + (C - 55296) * 1024 + D - 56320), k + 12) else none) else if C < 0 ∨ (56320 ≤ C ∧ C < 57344) then none else some (Lib.encodeRune C, k + 6)) := by
    show _ = _
    rw [hEU, HC.out, HD.out]
    rfl
  have hl8 := h.len8
  clear hC hD lC lD hc hs hl1 h hEU hSZ
  by_cases h1 : 55296 ≤ C ∧ C < 56320
  · obtain ⟨h1a, h1b⟩ := h1
    by_cases h2 : 56320 ≤ D ∧ D < 57344
    · obtain ⟨h2a, h2b⟩ := h2
      have HK : Hid (k + 12 ≤ sb.size) := by show _ ≤ _; have := LD.out (by omega); have := HSZ.out; omega
      have HE : Hid (escP s k = some (Lib.encodeRune (65536 + (C - 55296) * 1024 + D - 56320), k + 12)) := by show _ = _; rw [HU.out, if_pos ⟨h1a, h1b⟩, if_pos ⟨h2a, h2b⟩]
      obtain ⟨V, hV⟩ : ∃ V : Nat, (V : Int) = 65536 + (C - 55296) * 1024 + D - 56320 := ⟨(65536 + (C - 55296) * 1024 + D - 56320).toNat, by omega⟩
      have HV := Lib.hid hV
      clear hV
      go_enter Tryd.func89, Tryd.ntmps89
      go_wp2
      go_quiet (fail)
      go_wp2
      go_quiet (fail)
      go_wp2
      go_quiet ((exact (four_q HS.out hl8 k (by omega) rfl HC.out _).mono fun e w2 h => ⟨h.1, _, h.2⟩))
      go_wp2
      go_quiet ((exact (four_q HS.out hl8 (k + 6) (by omega) (by omega) HD.out _).mono fun e w2 h => ⟨h.1, _, h.2⟩))
      go_wp2_with (go_at_call 55; go_must (refine (utf8_z V (by have := HV.out; omega) (by have := HV.out; omega) (by have := HV.out; omega) _).mono ?_; rintro e w3 ⟨rfl, hb3⟩))
      go_ret2
      exact RescPost.yes HE.out (by rw [HV.out]) (RA.below (RA.putz (k := k) (by first | exact (((H.out.drewN _).drewN _).drewN _).drewN _ | exact ((H.out.drewN _).drewN _).drewN _ | exact (H.out.drewN _).drewN _ | exact H.out.drewN _) (by omega) HK.out) hb3)
    · have HE : Hid (escP s k = none) := by show _ = _; rw [HU.out, if_pos ⟨h1a, h1b⟩, if_neg h2]
      by_cases h3 : D < 56320
      · clear h2
        go_enter Tryd.func89, Tryd.ntmps89
        go_wp2
        go_quiet (fail)
        go_wp2
        go_quiet (fail)
        go_wp2
        go_quiet ((exact (four_q HS.out hl8 k (by omega) rfl HC.out _).mono fun e w2 h => ⟨h.1, _, h.2⟩))
        go_wp2
        go_quiet ((exact (four_q HS.out hl8 (k + 6) (by omega) (by omega) HD.out _).mono fun e w2 h => ⟨h.1, _, h.2⟩))
        go_wp2
        go_ret2
        exact RescPost.no HE.out (by first | exact (((H.out.drewN _).drewN _).drewN _).drewN _ | exact ((H.out.drewN _).drewN _).drewN _ | exact (H.out.drewN _).drewN _ | exact H.out.drewN _)
      · have h4 : 57344 ≤ D := by omega
        clear h2
        go_enter Tryd.func89, Tryd.ntmps89
        go_wp2
        go_quiet (fail)
        go_wp2
        go_quiet (fail)
        go_wp2
        go_quiet ((exact (four_q HS.out hl8 k (by omega) rfl HC.out _).mono fun e w2 h => ⟨h.1, _, h.2⟩))
        go_wp2
        go_quiet ((exact (four_q HS.out hl8 (k + 6) (by omega) (by omega) HD.out _).mono fun e w2 h => ⟨h.1, _, h.2⟩))
        go_wp2
        go_ret2
        exact RescPost.no HE.out (by first | exact (((H.out.drewN _).drewN _).drewN _).drewN _ | exact ((H.out.drewN _).drewN _).drewN _ | exact (H.out.drewN _).drewN _ | exact H.out.drewN _)
  · by_cases h2 : C < 0 ∨ (56320 ≤ C ∧ C < 57344)
    · have HE : Hid (escP s k = none) := by show _ = _; rw [HU.out, if_neg h1, if_pos h2]
      by_cases h3 : C < 0
      · have h4 : ¬ 55296 ≤ C := by omega
        clear h1 h2
        go_enter Tryd.func89, Tryd.ntmps89
        go_wp2
        go_quiet (fail)
        go_wp2
        go_quiet (fail)
        go_wp2
        go_quiet ((exact (four_q HS.out hl8 k (by omega) rfl HC.out _).mono fun e w2 h => ⟨h.1, _, h.2⟩))
        go_wp2
        go_ret2
        exact RescPost.no HE.out (by first | exact (((H.out.drewN _).drewN _).drewN _).drewN _ | exact ((H.out.drewN _).drewN _).drewN _ | exact (H.out.drewN _).drewN _ | exact H.out.drewN _)
      · have h4 : 55296 ≤ C := by omega
        have h5 : ¬ C < 56320 := by omega
        have h6 : 56320 ≤ C := by omega
        have h7 : C < 57344 := by omega
        clear h1 h2
        go_enter Tryd.func89, Tryd.ntmps89
        go_wp2
        go_quiet (fail)
        go_wp2
        go_quiet (fail)
        go_wp2
        go_quiet ((exact (four_q HS.out hl8 k (by omega) rfl HC.out _).mono fun e w2 h => ⟨h.1, _, h.2⟩))
        go_wp2
        go_ret2
        exact RescPost.no HE.out (by first | exact (((H.out.drewN _).drewN _).drewN _).drewN _ | exact ((H.out.drewN _).drewN _).drewN _ | exact (H.out.drewN _).drewN _ | exact H.out.drewN _)
    · have HE : Hid (escP s k = some (Lib.encodeRune C, k + 6)) := by show _ = _; rw [HU.out, if_neg h1, if_neg h2]
      have h0 : ¬ C < 0 := by omega
      have HK : Hid (k + 6 ≤ sb.size) := by show _ ≤ _; have := LC.out (by omega); have := HSZ.out; omega
      obtain ⟨V, hV⟩ : ∃ V : Nat, (V : Int) = C := ⟨C.toNat, by omega⟩
      have HV := Lib.hid hV
      have HVR : Hid (V ≤ 1114111 ∧ (V < 55296 ∨ 57343 < V)) := by show _ ∧ _; omega
      clear hV
      by_cases h3 : 55296 ≤ C
      · have h5 : ¬ C < 56320 := by omega
        have h6 : 56320 ≤ C := by omega
        have h7 : ¬ C < 57344 := by omega
        clear h1 h2
        go_enter Tryd.func89, Tryd.ntmps89
        go_wp2
        go_quiet (fail)
        go_wp2
        go_quiet (fail)
        go_wp2
        go_quiet ((exact (four_q HS.out hl8 k (by omega) rfl HC.out _).mono fun e w2 h => ⟨h.1, _, h.2⟩))
        go_wp2_with (go_at_call 55; go_must (refine (utf8_z V HVR.out.1 HVR.out.2 (by have := HV.out; omega) _).mono ?_; rintro e w3 ⟨rfl, hb3⟩))
        go_ret2
        exact RescPost.yes HE.out (by rw [HV.out]) (RA.below (RA.putz (k := k) (by first | exact (((H.out.drewN _).drewN _).drewN _).drewN _ | exact ((H.out.drewN _).drewN _).drewN _ | exact (H.out.drewN _).drewN _ | exact H.out.drewN _) (by omega) HK.out) hb3)
      · have h5 : ¬ 56320 ≤ C := by omega
        clear h1 h2
        go_enter Tryd.func89, Tryd.ntmps89
        go_wp2
        go_quiet (fail)
        go_wp2
        go_quiet (fail)
        go_wp2
        go_quiet ((exact (four_q HS.out hl8 k (by omega) rfl HC.out _).mono fun e w2 h => ⟨h.1, _, h.2⟩))
        go_wp2_with (go_at_call 55; go_must (refine (utf8_z V HVR.out.1 HVR.out.2 (by have := HV.out; omega) _).mono ?_; rintro e w3 ⟨rfl, hb3⟩))
        go_ret2
        exact RescPost.yes HE.out (by rw [HV.out]) (RA.below (RA.putz (k := k) (by first | exact (((H.out.drewN _).drewN _).drewN _).drewN _ | exact ((H.out.drewN _).drewN _).drewN _ | exact (H.out.drewN _).drewN _ | exact H.out.drewN _) (by omega) HK.out) hb3)
theorem resc_at (h : RA w0 g sb w k d lg) (hs : sb = ⟨s.toArray⟩) : Calls Tryd.prog 89 #[.pointer (some ⟨g, 0, none⟩)] w fun e w' => RescPost w0 g sb s k d lg e w' := by
  cases hc : s[k + 1]? with
  | none => exact resc_end h hs hc
  | some c =>
    by_cases h34 : c = 34
    · subst h34; exact resc_34 h hs hc
    by_cases h92 : c = 92
    · subst h92; exact resc_92 h hs hc
    by_cases h47 : c = 47
    · subst h47; exact resc_47 h hs hc
    by_cases h98 : c = 98
    · subst h98; exact resc_98 h hs hc
    by_cases h102 : c = 102
    · subst h102; exact resc_102 h hs hc
    by_cases h110 : c = 110
    · subst h110; exact resc_110 h hs hc
    by_cases h114 : c = 114
    · subst h114; exact resc_114 h hs hc
    by_cases h116 : c = 116
    · subst h116; exact resc_116 h hs hc
    by_cases h117 : c = 117
    · subst h117; exact resc_u h hs hc
    · exact resc_none h hs hc (by unfold single; rw [if_neg h34, if_neg h92, if_neg h47, if_neg h98, if_neg h102, if_neg h110, if_neg h114, if_neg h116]) h117
end
end Go.Proofs.YtkbopeoaoakfnaaDoor
