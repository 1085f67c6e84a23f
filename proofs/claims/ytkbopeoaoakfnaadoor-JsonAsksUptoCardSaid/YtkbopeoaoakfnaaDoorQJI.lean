/- The texts J12 J13 of this work, merged by wip/merge.py. No conditions. -/
import Derived.Test.YtkbopeoaoakfnaaDoorQJH
namespace Go.Proofs.YtkbopeoaoakfnaaDoor
open Go.RowKit
section
variable {w0 w w' : World} {base g : Nat} {s : List UInt8} {st : PS}
/-- What value leaves. -/
def ValPost (w : World) (base g : Nat) (s : List UInt8) (p : JV × PS) (e : Ending) (w' : World) : Prop := ∃ v, e = .returned v ∧ At w base g s w' p.2 ∧ IsV w' (fun k => w.heap.size ≤ k ∧ k < w'.heap.size) v p.1
theorem valP_fault {n : Nat} (hf : st.fault ≠ none) : valP s (n + 1) st = (.nil, st) := by unfold valP; rw [if_neg hf]
theorem valP_none {n : Nat} (hf : st.fault = none) (hs : s[st.at_]? = none) : valP s (n + 1) st = (.num ((st.fail st.at_ 2).numS s), (st.fail st.at_ 2).numb s) := by conv => lhs; unfold valP; rw [if_pos hf, hs]
theorem valP_some {n : Nat} {c : UInt8} (hf : st.fault = none) (hs : s[st.at_]? = some c) : valP s (n + 1) st = (if c = 123 then (JV.obj (memP s 125 (objOne s (valP s n)) n ([], []) st).1.1 (memP s 125 (objOne s (valP s n)) n ([], []) st).1.2, (memP s 125 (objOne s (valP s n)) n ([], []) st).2)
        else if c = 91 then (.list (memP s 93 (listOne (valP s n)) n [] st).1, (memP s 93 (listOne (valP s n)) n [] st).2)
        else if c = 34 then (.text (st.textV s), st.text s)
        else if c = 116 then (.bool true, st.word s [116, 114, 117, 101])
        else if c = 102 then (.bool false, st.word s [102, 97, 108, 115, 101])
        else if c = 110 then (.null, st.word s [110, 117, 108, 108])
        else (.num (st.numS s), st.numb s)) := by conv => lhs; unfold valP; rw [if_pos hf, hs]
theorem ne_byte {c d : UInt8} {tl : List UInt8} (h : c ≠ d) (N : Int) (hN : (d.toNat : Int) = N) : ∀ h0 : 0 < (⟨(c :: tl).toArray⟩ : ByteArray).size, ((((⟨(c :: tl).toArray⟩ : ByteArray)[0]'h0).toNat : Int) == N) = false := by
  intro h0
  subst hN
  show ((c.toNat : Int) == (d.toNat : Int)) = false
  simp only [beq_eq_false_iff_ne, ne_eq]
  intro h_
  exact h (UInt8.toNat_inj.1 (by omega))
theorem drop_cons {c : UInt8} {k : Nat} (h : s[k]? = some c) : k < s.length ∧ ∃ tl, s.drop k = c :: tl := by
  have hlt : k < s.length := by
    rcases Nat.lt_or_ge k s.length with h' | h'
    · exact h'
    · rw [List.getElem?_eq_none h'] at h; cases h
  refine ⟨hlt, s.drop (k + 1), ?_⟩
  rw [List.drop_eq_getElem_cons hlt]
  rw [List.getElem?_eq_getElem hlt] at h
  rw [Option.some.inj h]
set_option maxRecDepth 100000 in
set_option maxHeartbeats 800000 in
theorem value_fault {n : Nat} (h : At w base g s w st) (hf : st.fault ≠ none) : Calls Tryd.prog 32 #[.pointer (some ⟨g, 0, none⟩)] w (ValPost w base g s (valP s (n + 1) st)) := by
  obtain ⟨fp, c3, hfp⟩ := h.fault
  have hd0 : decide (st.fault = none) = false := by simp [hf]
  rw [hd0] at hfp
  obtain ⟨c0, c1, c2, fz⟩ := h.cells
  have H := Lib.hid h
  have HR := Lib.hid (valP_fault (s := s) (n := n) hf)
  clear h hd0 hf
  go_enter Tryd.func32, Tryd.ntmps32
  go_wp2_with (first
    | fail)
  go_ret
  rw [HR.out]
  exact ⟨_, rfl, H.out, .nil⟩
set_option maxRecDepth 100000 in
set_option maxHeartbeats 800000 in
theorem value_none {n : Nat} (h : At w base g s w st) (hf : st.fault = none) (hs : s[st.at_]? = none) : Calls Tryd.prog 32 #[.pointer (some ⟨g, 0, none⟩)] w (ValPost w base g s (valP s (n + 1) st)) := by
  obtain ⟨fp, c3, hfp⟩ := h.fault
  have hd0 : decide (st.fault = none) = true := by simp [hf]
  rw [hd0] at hfp
  obtain ⟨c0, c1, c2, fz⟩ := h.cells
  have H := Lib.hid h
  have HR := Lib.hid (valP_none (s := s) (n := n) hf hs)
  have hdn : s.drop st.at_ = [] := List.drop_eq_nil_of_le (by
    rcases Nat.lt_or_ge st.at_ s.length with h' | h'
    · rw [List.getElem?_eq_getElem h'] at hs; cases hs
    · exact h')
  clear h hd0 hf hs
  go_enter Tryd.func32, Tryd.ntmps32
  go_wp2_with (first
    | (go_at_call 57; go_must (have tz := lift_at H.out (rest_at H.out.self); rw [hdn] at tz; refine tz.mono ?_; clear tz; rintro e w1 ⟨rfl, h1, t1⟩; obtain ⟨x0_, x1_, x2_, xz_⟩ := h1.cells))
    | (go_at_call 33; go_must (refine (lift_at h1 (fail_at h1.self _ _)).mono ?_; rintro e w2 ⟨rfl, h2, t2⟩))
    | (go_at_call 62; go_must (refine (lift_at h2 (number_at h2.self)).mono ?_; rintro e w3 ⟨rfl, h3, t3⟩)))
  go_ret
  rw [HR.out]
  exact ⟨_, rfl, h3, .num _⟩
set_option maxRecDepth 100000 in
set_option maxHeartbeats 800000 in
theorem value_obj {n : Nat} (hV : VAL s n) (hn : s.length - st.at_ ≤ n) (hd : 0 ≤ st.depth ∧ st.depth ≤ 16) (h : At w base g s w st) (hf : st.fault = none) (hs : s[st.at_]? = some 123) : Calls Tryd.prog 32 #[.pointer (some ⟨g, 0, none⟩)] w (ValPost w base g s (valP s (n + 1) st)) := by
  obtain ⟨fp, c3, hfp⟩ := h.fault
  have hd0 : decide (st.fault = none) = true := by simp [hf]
  rw [hd0] at hfp
  obtain ⟨c0, c1, c2, fz⟩ := h.cells
  have H := Lib.hid h
  have hr := valP_some (s := s) (n := n) hf hs
  rw [if_pos rfl] at hr
  have HR := Lib.hid hr
  clear hr
  obtain ⟨hlt, tl, hdn⟩ := drop_cons hs
  have HO := Lib.hid (show ∀ w1, At w base g s w1 st → Turn g w w1 → Calls Tryd.prog 58 #[.pointer (some ⟨g, 0, none⟩)] w1 (fun e w' => ∃ v, e = .returned v ∧ At w base g s w' (memP s 125 (objOne s (valP s n)) n ([], []) st).2 ∧ IsV w' (fun k => w.heap.size ≤ k ∧ k < w'.heap.size) v (.obj (memP s 125 (objOne s (valP s n)) n ([], []) st).1.1 (memP s 125 (objOne s (valP s n)) n ([], []) st).1.2)) from
    fun w1 h1 t1 => (object_at hV h1.self hlt hn hd.1 hd.2).mono fun e w' ⟨v, a1, a2, a3⟩ => ⟨v, a1, h1.step a2.ps a2.turn, a3.keep (fun k _ => rfl) (fun k hF => ⟨Nat.le_trans t1.size hF.1, hF.2⟩)⟩)
  clear h hd0 hf hs hlt hV hn hd
  go_enter Tryd.func32, Tryd.ntmps32
  go_wp2_with (first
    | (go_at_call 57; go_must (have tz := lift_at H.out (rest_at H.out.self); rw [hdn] at tz; refine tz.mono ?_; clear tz; rintro e w1 ⟨rfl, h1, t1⟩; obtain ⟨x0_, x1_, x2_, xz_⟩ := h1.cells))
    | (go_at_call 58; go_must (refine (HO.out w1 h1 t1).mono ?_; rintro e w3 ⟨u, rfl, h3, hu⟩)))
  go_ret
  rw [HR.out]
  exact ⟨_, rfl, h3, hu⟩
set_option maxRecDepth 100000 in
set_option maxHeartbeats 800000 in
theorem value_list {n : Nat} (hV : VAL s n) (hn : s.length - st.at_ ≤ n) (hd : 0 ≤ st.depth ∧ st.depth ≤ 16) (h : At w base g s w st) (hf : st.fault = none) (hs : s[st.at_]? = some 91) : Calls Tryd.prog 32 #[.pointer (some ⟨g, 0, none⟩)] w (ValPost w base g s (valP s (n + 1) st)) := by
  obtain ⟨fp, c3, hfp⟩ := h.fault
  have hd0 : decide (st.fault = none) = true := by simp [hf]
  rw [hd0] at hfp
  obtain ⟨c0, c1, c2, fz⟩ := h.cells
  have H := Lib.hid h
  have hr := valP_some (s := s) (n := n) hf hs
  rw [if_neg (by decide), if_pos rfl] at hr
  have HR := Lib.hid hr
  clear hr
  obtain ⟨hlt, tl, hdn⟩ := drop_cons hs
  have HO := Lib.hid (show ∀ w1, At w base g s w1 st → Turn g w w1 → Calls Tryd.prog 59 #[.pointer (some ⟨g, 0, none⟩)] w1 (fun e w' => ∃ v, e = .returned v ∧ At w base g s w' (memP s 93 (listOne (valP s n)) n [] st).2 ∧ IsV w' (fun k => w.heap.size ≤ k ∧ k < w'.heap.size) v (.list (memP s 93 (listOne (valP s n)) n [] st).1)) from
    fun w1 h1 t1 => (list_at hV h1.self hlt hn hd.1 hd.2).mono fun e w' ⟨v, a1, a2, a3⟩ => ⟨v, a1, h1.step a2.ps a2.turn, a3.keep (fun k _ => rfl) (fun k hF => ⟨Nat.le_trans t1.size hF.1, hF.2⟩)⟩)
  clear h hd0 hf hs hlt hV hn hd
  go_enter Tryd.func32, Tryd.ntmps32
  go_wp2_with (first
    | (go_at_call 57; go_must (have tz := lift_at H.out (rest_at H.out.self); rw [hdn] at tz; refine tz.mono ?_; clear tz; rintro e w1 ⟨rfl, h1, t1⟩; obtain ⟨x0_, x1_, x2_, xz_⟩ := h1.cells))
    | (go_at_call 59; go_must (refine (HO.out w1 h1 t1).mono ?_; rintro e w3 ⟨u, rfl, h3, hu⟩)))
  go_ret
  rw [HR.out]
  exact ⟨_, rfl, h3, hu⟩
set_option maxRecDepth 100000 in
set_option maxHeartbeats 800000 in
theorem value_text {n : Nat} (h : At w base g s w st) (hf : st.fault = none) (hs : s[st.at_]? = some 34) : Calls Tryd.prog 32 #[.pointer (some ⟨g, 0, none⟩)] w (ValPost w base g s (valP s (n + 1) st)) := by
  obtain ⟨fp, c3, hfp⟩ := h.fault
  have hd0 : decide (st.fault = none) = true := by simp [hf]
  rw [hd0] at hfp
  obtain ⟨c0, c1, c2, fz⟩ := h.cells
  have H := Lib.hid h
  have hr := valP_some (s := s) (n := n) hf hs
  rw [if_neg (by decide), if_neg (by decide), if_pos rfl] at hr
  have HR := Lib.hid hr
  clear hr
  obtain ⟨hlt, tl, hdn⟩ := drop_cons hs
  clear h hd0 hf hs hlt
  go_enter Tryd.func32, Tryd.ntmps32
  go_wp2_with (first
    | (go_at_call 57; go_must (have tz := lift_at H.out (rest_at H.out.self); rw [hdn] at tz; refine tz.mono ?_; clear tz; rintro e w1 ⟨rfl, h1, t1⟩; obtain ⟨x0_, x1_, x2_, xz_⟩ := h1.cells))
    | (go_at_call 60; go_must (refine (lift_at h1 (text_at h1.self)).mono ?_; rintro e w3 ⟨rfl, h3, t3⟩)))
  go_ret
  rw [HR.out]
  exact ⟨_, rfl, h3, .text _⟩
set_option maxRecDepth 100000 in
set_option maxHeartbeats 800000 in
theorem value_true {n : Nat} (h : At w base g s w st) (hf : st.fault = none) (hs : s[st.at_]? = some 116) : Calls Tryd.prog 32 #[.pointer (some ⟨g, 0, none⟩)] w (ValPost w base g s (valP s (n + 1) st)) := by
  obtain ⟨fp, c3, hfp⟩ := h.fault
  have hd0 : decide (st.fault = none) = true := by simp [hf]
  rw [hd0] at hfp
  obtain ⟨c0, c1, c2, fz⟩ := h.cells
  have H := Lib.hid h
  have hr := valP_some (s := s) (n := n) hf hs
  rw [if_neg (by decide), if_neg (by decide), if_neg (by decide), if_pos rfl] at hr
  have HR := Lib.hid hr
  clear hr
  obtain ⟨hlt, tl, hdn⟩ := drop_cons hs
  have HF := Lib.hid hf
  clear h hd0 hf hs hlt
  go_enter Tryd.func32, Tryd.ntmps32
  go_wp2_with (first
    | (go_at_call 57; go_must (have tz := lift_at H.out (rest_at H.out.self); rw [hdn] at tz; refine tz.mono ?_; clear tz; rintro e w1 ⟨rfl, h1, t1⟩; obtain ⟨x0_, x1_, x2_, xz_⟩ := h1.cells))
    | (go_at_call 61; go_must (refine (lift_at h1 (word_at [116, 114, 117, 101] (by decide) HF.out h1.self)).mono ?_; rintro e w3 ⟨rfl, h3, t3⟩)))
  go_ret
  rw [HR.out]
  exact ⟨_, rfl, h3, .bool _⟩
set_option maxRecDepth 100000 in
set_option maxHeartbeats 800000 in
theorem value_false {n : Nat} (h : At w base g s w st) (hf : st.fault = none) (hs : s[st.at_]? = some 102) : Calls Tryd.prog 32 #[.pointer (some ⟨g, 0, none⟩)] w (ValPost w base g s (valP s (n + 1) st)) := by
  obtain ⟨fp, c3, hfp⟩ := h.fault
  have hd0 : decide (st.fault = none) = true := by simp [hf]
  rw [hd0] at hfp
  obtain ⟨c0, c1, c2, fz⟩ := h.cells
  have H := Lib.hid h
  have hr := valP_some (s := s) (n := n) hf hs
  rw [if_neg (by decide), if_neg (by decide), if_neg (by decide), if_neg (by decide), if_pos rfl] at hr
  have HR := Lib.hid hr
  clear hr
  obtain ⟨hlt, tl, hdn⟩ := drop_cons hs
  have HF := Lib.hid hf
  clear h hd0 hf hs hlt
  go_enter Tryd.func32, Tryd.ntmps32
  go_wp2_with (first
    | (go_at_call 57; go_must (have tz := lift_at H.out (rest_at H.out.self); rw [hdn] at tz; refine tz.mono ?_; clear tz; rintro e w1 ⟨rfl, h1, t1⟩; obtain ⟨x0_, x1_, x2_, xz_⟩ := h1.cells))
    | (go_at_call 61; go_must (refine (lift_at h1 (word_at [102, 97, 108, 115, 101] (by decide) HF.out h1.self)).mono ?_; rintro e w3 ⟨rfl, h3, t3⟩)))
  go_ret
  rw [HR.out]
  exact ⟨_, rfl, h3, .bool _⟩
set_option maxRecDepth 100000 in
set_option maxHeartbeats 800000 in
theorem value_null {n : Nat} (h : At w base g s w st) (hf : st.fault = none) (hs : s[st.at_]? = some 110) : Calls Tryd.prog 32 #[.pointer (some ⟨g, 0, none⟩)] w (ValPost w base g s (valP s (n + 1) st)) := by
  obtain ⟨fp, c3, hfp⟩ := h.fault
  have hd0 : decide (st.fault = none) = true := by simp [hf]
  rw [hd0] at hfp
  obtain ⟨c0, c1, c2, fz⟩ := h.cells
  have H := Lib.hid h
  have hr := valP_some (s := s) (n := n) hf hs
  rw [if_neg (by decide), if_neg (by decide), if_neg (by decide), if_neg (by decide), if_neg (by decide), if_pos rfl] at hr
  have HR := Lib.hid hr
  clear hr
  obtain ⟨hlt, tl, hdn⟩ := drop_cons hs
  have HF := Lib.hid hf
  clear h hd0 hf hs hlt
  go_enter Tryd.func32, Tryd.ntmps32
  go_wp2_with (first
    | (go_at_call 57; go_must (have tz := lift_at H.out (rest_at H.out.self); rw [hdn] at tz; refine tz.mono ?_; clear tz; rintro e w1 ⟨rfl, h1, t1⟩; obtain ⟨x0_, x1_, x2_, xz_⟩ := h1.cells))
    | (go_at_call 61; go_must (refine (lift_at h1 (word_at [110, 117, 108, 108] (by decide) HF.out h1.self)).mono ?_; rintro e w3 ⟨rfl, h3, t3⟩)))
  go_ret
  rw [HR.out]
  exact ⟨_, rfl, h3, .null⟩
set_option maxRecDepth 100000 in
set_option maxHeartbeats 800000 in
theorem value_other {n : Nat} {c : UInt8} (n1 : c ≠ 123) (n2 : c ≠ 91) (n3 : c ≠ 34) (n4 : c ≠ 116) (n5 : c ≠ 102) (n6 : c ≠ 110) (h : At w base g s w st) (hf : st.fault = none) (hs : s[st.at_]? = some c) : Calls Tryd.prog 32 #[.pointer (some ⟨g, 0, none⟩)] w (ValPost w base g s (valP s (n + 1) st)) := by
  obtain ⟨fp, c3, hfp⟩ := h.fault
  have hd0 : decide (st.fault = none) = true := by simp [hf]
  rw [hd0] at hfp
  obtain ⟨c0, c1, c2, fz⟩ := h.cells
  have H := Lib.hid h
  have hr := valP_some (s := s) (n := n) hf hs
  rw [if_neg n1, if_neg n2, if_neg n3, if_neg n4, if_neg n5, if_neg n6] at hr
  have HR := Lib.hid hr
  clear hr
  obtain ⟨hlt, tl, hdn⟩ := drop_cons hs
  have q1 := ne_byte (d := 123) (tl := tl) n1 123 rfl
  have q2 := ne_byte (d := 91) (tl := tl) n2 91 rfl
  have q3 := ne_byte (d := 34) (tl := tl) n3 34 rfl
  have q4 := ne_byte (d := 116) (tl := tl) n4 116 rfl
  have q5 := ne_byte (d := 102) (tl := tl) n5 102 rfl
  have q6 := ne_byte (d := 110) (tl := tl) n6 110 rfl
  clear h hd0 hf hs hlt
  go_enter Tryd.func32, Tryd.ntmps32
  go_wp2_with (first
    | (go_at_call 57; go_must (have tz := lift_at H.out (rest_at H.out.self); rw [hdn] at tz; refine tz.mono ?_; clear tz; rintro e w1 ⟨rfl, h1, t1⟩; obtain ⟨x0_, x1_, x2_, xz_⟩ := h1.cells))
    | (go_at_call 62; go_must (refine (lift_at h1 (number_at h1.self)).mono ?_; rintro e w3 ⟨rfl, h3, t3⟩)))
  go_ret
  rw [HR.out]
  exact ⟨_, rfl, h3, .num _⟩
theorem val_all (s : List UInt8) : ∀ n, VAL s n
  | 0 => fun _ _ _ _ _ _ h => absurd h (by decide)
  | n + 1 => fun base g w st h hb _ => by
    show Calls Tryd.prog 32 #[.pointer (some ⟨g, 0, none⟩)] w (ValPost w base g s (valP s (n + 1) st))
    by_cases hf : st.fault = none
    · obtain ⟨b1, b2⟩ := hb hf
      cases hs : s[st.at_]? with
      | none => exact value_none h hf hs
      | some c =>
        by_cases n1 : c = 123
        · subst n1; exact value_obj (val_all s n) (by omega) b2 h hf hs
        by_cases n2 : c = 91
        · subst n2; exact value_list (val_all s n) (by omega) b2 h hf hs
        by_cases n3 : c = 34
        · subst n3; exact value_text h hf hs
        by_cases n4 : c = 116
        · subst n4; exact value_true h hf hs
        by_cases n5 : c = 102
        · subst n5; exact value_false h hf hs
        by_cases n6 : c = 110
        · subst n6; exact value_null h hf hs
        exact value_other n1 n2 n3 n4 n5 n6 h hf hs
    · exact value_fault h hf
end
end Go.Proofs.YtkbopeoaoakfnaaDoor

namespace Go.Proofs.YtkbopeoaoakfnaaDoor
open Go.RowKit
/-- What Parse leaves. -/
def ParsePost (w : World) (s : List UInt8) (e : Ending) (w' : World) : Prop :=
  ∃ v, e = .returned (.tuple #[v, .int .i64 (parseP s).2.1, .int .i64 (parseP s).2.2]) ∧ Below w.heap.size w w' ∧ IsV w' (fun k => w.heap.size ≤ k ∧ k < w'.heap.size) v (parseP s).1
section
variable {w w' : World} {s : List UInt8}
theorem at_new (w : World) (s : List UInt8) (hl : s.length ≤ 8192) : At (w.alloc (.cells #[.string ⟨s.toArray⟩, .int .i64 0, .int .i64 0, .pointer none] 80)) w.heap.size w.heap.size s (w.alloc (.cells #[.string ⟨s.toArray⟩, .int .i64 0, .int .i64 0, .pointer none] 80)) ⟨0, 0, none⟩ :=
  At.start ⟨.pointer none, heap_alloc_new w _, Nat.le_refl _, Nat.zero_le _, rfl⟩ (by simp) hl
theorem at_back {w1 : World} {st : PS} {o : Obj} (h1 : w1 = w.alloc o) (h : At w1 w.heap.size w.heap.size s w' st) : Below w.heap.size w w' := by
  have hb : Below w.heap.size w w1 := by rw [h1]; exact (Below.refl _ _).alloc (Nat.le_refl _) _
  have ht := h.turn
  exact hb.trans ⟨ht.os, ht.tape, ht.output, ht.size, fun k hk => ht.block k (Nat.lt_of_lt_of_le hk hb.size) (by omega)⟩
set_option maxRecDepth 100000 in
set_option maxHeartbeats 800000 in
theorem parse_any (w : World) (s : List UInt8) : Calls Tryd.prog 16 #[.string ⟨s.toArray⟩] w (ParsePost w s) := by
  have hsz : (⟨s.toArray⟩ : ByteArray).size = s.length := by simp [ByteArray.size]
  by_cases hbig : 8192 < s.length
  · have hb : (8192 : Int) < (s.length : Int) := by omega
    have HR := Lib.hid (show parseP s = (.nil, 0, 6) by unfold parseP; rw [if_pos hbig])
    clear hbig
    go_enter Tryd.func16, Tryd.ntmps16
    go_wp2
    go_ret3
    rw [ParsePost, HR.out]
    exact ⟨_, rfl, Below.refl _ _, .nil⟩
  · have hl : s.length ≤ 8192 := by omega
    have hb : ¬ (8192 : Int) < (s.length : Int) := by omega
    obtain ⟨w1, hw1⟩ : ∃ w1, w1 = w.alloc (.cells #[.string ⟨s.toArray⟩, .int .i64 0, .int .i64 0, .pointer none] 80) := ⟨_, rfl⟩
    have h0 := at_new w s hl
    rw [← hw1] at h0
    have HW := Lib.hid hw1
    have hend : parseP s = match (endP s).fault with | some (k, e) => (.nil, k, e) | none => ((bodyP s).1, 0, 0) := by unfold parseP; rw [if_neg hbig]; rfl
    have HE := Lib.hid hend
    clear hbig hend
    go_enter Tryd.func16, Tryd.ntmps16
    go_upto_region 7 with (first
      | (go_at_call 31; have hx_ := h3; go_must (refine (lift_at h3 (blanks_at h3.self)).mono ?_; rintro e w4 ⟨rfl, h4, t4⟩))
      | (go_at_call 31; go_must (rw [← HW.out]; refine (lift_at h0 (blanks_at h0.self)).mono ?_; rintro e w2 ⟨rfl, h2, t2⟩))
      | (go_at_call 32; go_must (refine (val_all s (s.length + 1) _ _ _ _ h2.self (fun _ => ⟨by omega, by rw [PS.blanks_depth]; decide, by rw [PS.blanks_depth]; decide⟩) (by omega)).mono ?_; rintro e w3 ⟨v, rfl, hv3, hu⟩; have h3 := h2.step hv3.ps hv3.turn)))
    have hE : (PS.blanks (valP s (s.length + 1) (PS.blanks ⟨0, 0, none⟩ s)).2 s) = (bodyP s).2.blanks s := rfl
    rw [hE] at h4
    obtain ⟨D, hD⟩ : ∃ D, D = (bodyP s).2.blanks s := ⟨_, rfl⟩
    rw [← hD] at h4
    have hend2 : endP s = if D.fault = none ∧ D.at_ < s.length then D.fail D.at_ 2 else D := by rw [hD]; rfl
    have HEND := Lib.hid hend2
    have HU := Lib.hid (show IsV w3 (fun k => w2.heap.size ≤ k ∧ k < w3.heap.size) v (bodyP s).1 from hu)
    have HS := Lib.hid (show w.heap.size < w2.heap.size ∧ w2.heap.size ≤ w3.heap.size from ⟨by have h_ := h2.ps.lt; omega, hv3.turn.size⟩)
    obtain ⟨fp, c3, hfp⟩ := h4.fault
    obtain ⟨c0, c1, c2, fz⟩ := h4.cells
    have hsl : (s.length : Int) ≤ 8192 := by omega
    clear hE hD hend2 hu hv3 h2 t2 h3 h0
    go_cut [32] from 7 (fun v w' => v = .bool (decide (D.fault = none ∧ D.at_ < s.length)) ∧ w' = w4)
    case first =>
      by_cases hf : D.fault = none
      · have hd0 : decide (D.fault = none) = true := by simp [hf]
        rw [hd0] at hfp
        by_cases hlt : D.at_ < s.length
        · have hI : (D.at_ : Int) < (s.length : Int) := by omega
          go_wp2
          go_meet
          case rel => exact ⟨by simp [hf, hlt], rfl⟩
        · have hI : (s.length : Int) ≤ (D.at_ : Int) := by omega
          go_wp2
          go_meet
          case rel => exact ⟨by simp [hlt], rfl⟩
      · have hd0 : decide (D.fault = none) = false := by simp [hf]
        rw [hd0] at hfp
        go_wp2
        go_meet
        case rel => exact ⟨by simp [hf], rfl⟩
    case rest =>
      obtain ⟨rfl, rfl⟩ := hcut
      go_upto_if 32 with fail
      go_cut [] from 7 (fun w' => At w1 w.heap.size w.heap.size s w' (endP s) ∧ Turn w.heap.size w3 w')
      case first =>
        by_cases hc : D.fault = none ∧ D.at_ < s.length
        · have hb2 : decide (D.fault = none ∧ D.at_ < s.length) = true := by simp [hc]
          rw [hb2]
          have HK := Lib.hid hc
          clear hc hb2
          go_wp2_with (go_at_call 33; go_must (refine (lift_at h4 (fail_at h4.self _ _)).mono ?_; rintro e w5 ⟨rfl, h5, t5⟩))
          go_meet
          case rel => exact ⟨h5.cast (by rw [HEND.out, if_pos HK.out]), t4.trans t5⟩
        · have hb2 : decide (D.fault = none ∧ D.at_ < s.length) = false := by simpa using hc
          rw [hb2]
          go_wp2
          go_meet
          case rel => exact ⟨h4.cast (by rw [HEND.out, if_neg hc]), t4⟩
      case rest =>
        obtain ⟨h6, t6⟩ := hcut
        clear c0 c1 c2 fz c3 hfp h4 t4
        obtain ⟨fq, d3, hfq⟩ := h6.fault
        obtain ⟨d0, d1, d2, fz⟩ := h6.cells
        cases hF : (endP s).fault with
        | none =>
          rw [hF] at hfq
          have hq : fq.isNone = true := hfq
          have HR := Lib.hid (show parseP s = ((bodyP s).1, 0, 0) by rw [HE.out, hF])
          clear hfq hF
          go_wp2
          go_ret3
          rw [ParsePost, HR.out]
          refine ⟨_, rfl, at_back HW.out h6, ?_⟩
          have h_ := HS.out
          exact HU.out.keep (fun k hk => t6.block k hk.2 (by omega)) (fun k hk => ⟨by omega, Nat.lt_of_lt_of_le hk.2 t6.size⟩)
        | some ke =>
          obtain ⟨k, e⟩ := ke
          obtain ⟨f, e3, e4, e5⟩ := h6.ps.some_ hF
          rw [hF] at hfq
          have hq : fq.isNone = false := hfq
          have HR := Lib.hid (show parseP s = (.nil, k, e) by rw [HE.out, hF])
          rw [e3] at d3
          cases Option.some.inj d3
          clear hfq hF
          go_wp2
          go_quiet (fail)
          go_wp2
          go_ret3
          rw [ParsePost, HR.out]
          exact ⟨_, rfl, at_back HW.out (h6.below (below_drewN' (n := nq) rfl)), .nil⟩
end
end Go.Proofs.YtkbopeoaoakfnaaDoor
