/- json: the parser's next, must, rest. No conditions. -/
import Derived.Test.YtkbopeoaoakfnaaDoorJ1
import Derived.Deep.DeepMust
import Derived.Deep.LoopGhost
namespace Go.Proofs.YtkbopeoaoakfnaaDoor
open Go.RowKit
section
variable {w w' : World} {base g : Nat} {s : List UInt8} {st : PS}
theorem Ps.put1 (h : Ps w base g s st) {k : Nat} (hk : k ≤ s.length) : Ps (w.setCell ⟨g, 1, none⟩ (.int .i64 (k : Int))) base g s { st with at_ := k } ∧ Turn g w (w.setCell ⟨g, 1, none⟩ (.int .i64 (k : Int))) := by
  obtain ⟨p, h1, h2, h3, h4⟩ := h
  refine ⟨⟨p, heap_setCell_same _ _ _ _ _ _ h1, h2, hk, ?_⟩, (Turn.refl g w).setCell _⟩
  show FaultAt _ base g p st.fault
  revert h4
  cases st.fault with
  | none => exact id
  | some x => rintro ⟨f, e, h5, h6, h7⟩; exact ⟨f, e, h5, h6, (heap_setCell_other _ _ _ _ h6).trans h7⟩
set_option maxRecDepth 100000 in
set_option maxHeartbeats 1000000 in
theorem next_any (h : Ps w base g s st) (c : UInt8) (hl : s.length ≤ 8192) : Calls Tryd.prog 86 #[.pointer (some ⟨g, 0, none⟩), .int .u8 (c.toNat : Int)] w fun x w' => x = .returned (.bool (st.sees s c)) ∧ Ps w' base g s (st.next s c) ∧ Turn g w w' := by
  have hfz := h.unfrozen
  obtain ⟨c0, c1, c2⟩ := h.at_
  have H := Lib.hid h
  obtain ⟨p, _, _, hat, _⟩ := h
  have hsz : (⟨s.toArray⟩ : ByteArray).size = s.length := by simp [ByteArray.size]
  have hlI : (s.length : Int) ≤ 8192 := by omega
  by_cases hlt : st.at_ < s.length
  · have hd : decide (st.at_ < s.length) = true := by simp; exact hlt
    have hlt' : (st.at_ : Int) < (s.length : Int) := by omega
    have h0 : (0 : Int) ≤ (st.at_ : Int) := by omega
    go_enter Tryd.func86, Tryd.ntmps86
    go_wp2
    go_quiet (fail)
    have hq : ((((⟨s.toArray⟩ : ByteArray)[st.at_]'(by rw [hsz]; exact hlt)).toNat : Int) == (c.toNat : Int)) = st.sees s c := by
      have e1 : ((⟨s.toArray⟩ : ByteArray)[st.at_]'(by rw [hsz]; exact hlt)) = s[st.at_] := rfl
      rw [e1]
      unfold PS.sees
      rw [List.getElem?_eq_getElem hlt, Bool.eq_iff_iff]
      simp only [beq_iff_eq, Option.some.injEq]
      exact ⟨fun h => UInt8.toNat_inj.1 (by omega), fun h => by rw [h]⟩
    rw [hq]
    have HP := Lib.hid (H.out.put1 (k := st.at_ + 1) (by omega))
    clear hq
    cases hs : st.sees s c with
    | true =>
      have e2 : st.next s c = { st with at_ := st.at_ + 1 } := by unfold PS.next; rw [hs]; rfl
      have HE := Lib.hid e2
      have HS := Lib.hid hs
      go_wp2
      go_ret
      rw [HE.out, HS.out]
      exact ⟨rfl, HP.out.1, HP.out.2.drewN nq⟩
    | false =>
      have e2 : st.next s c = st := by unfold PS.next; rw [hs]; rfl
      have HE := Lib.hid e2
      have HS := Lib.hid hs
      go_wp2
      go_ret
      rw [HE.out, HS.out]
      exact ⟨rfl, H.out, (Turn.refl g w).drewN nq⟩
  · have hd : decide (st.at_ < s.length) = false := by simp; omega
    have hs : st.sees s c = false := by unfold PS.sees; rw [List.getElem?_eq_none (by omega)]; rfl
    have e2 : st.next s c = st := by unfold PS.next; rw [hs]; rfl
    have HE := Lib.hid e2
    go_enter Tryd.func86, Tryd.ntmps86
    go_wp2
    go_quiet (fail)
    go_wp2
    go_ret
    rw [HE.out, hs]
    exact ⟨rfl, H.out, (Turn.refl g w).drewN nq⟩
set_option maxRecDepth 100000 in
set_option maxHeartbeats 1000000 in
theorem must_any (h : Ps w base g s st) (hb : base ≤ w.heap.size) (c : UInt8) (hl : s.length ≤ 8192) : Calls Tryd.prog 81 #[.pointer (some ⟨g, 0, none⟩), .int .u8 (c.toNat : Int)] w fun x w' => x = .returned (.tuple #[]) ∧ Ps w' base g s (st.must s c) ∧ Turn g w w' := by
  have H := Lib.hid h
  have HB := Lib.hid hb
  have HL := Lib.hid hl
  clear h hb hl
  cases hs : st.sees s c with
  | true =>
    have HS := Lib.hid hs
    have e2 : st.must s c = st.next s c := by unfold PS.must PS.next; rw [hs]; rfl
    have HE := Lib.hid e2
    clear hs e2
    go_enter Tryd.func81, Tryd.ntmps81
    go_wp2_with (go_at_call 86; go_must (refine (next_any H.out c HL.out).mono ?_; rintro e w1 ⟨rfl, hp1, ht1⟩; rw [HS.out]; have H1 := Lib.hid (And.intro hp1 ht1); clear hp1 ht1))
    first
      | go_end0
      | (refine bodyPost_ret (results_none rfl _ _ _) rfl ?_)
    rw [HE.out]
    exact ⟨rfl, H1.out.1, H1.out.2⟩
  | false =>
    have HS := Lib.hid hs
    have e2 : st.must s c = st.fail st.at_ 2 := by unfold PS.must; rw [hs]; rfl
    have e3 : st.next s c = st := by unfold PS.next; rw [hs]; rfl
    have HE := Lib.hid e2
    have HE3 := Lib.hid e3
    clear hs e2 e3
    go_enter Tryd.func81, Tryd.ntmps81
    go_wp2_with (first
      | (go_at_call 86; go_must (refine (next_any H.out c HL.out).mono ?_; rintro e w1 ⟨rfl, hp1, ht1⟩; rw [HS.out]; rw [HE3.out] at hp1; obtain ⟨c0, c1, c2⟩ := hp1.at_; have H1 := Lib.hid (And.intro hp1 ht1); clear hp1 ht1))
      | (go_at_call 33; go_must (refine (fail_any H1.out.1 (Nat.le_trans HB.out H1.out.2.size) _ _).mono ?_; rintro e w2 ⟨rfl, hp2, ht2⟩; have H2 := Lib.hid (And.intro hp2 ht2); clear hp2 ht2)))
    first
      | go_end0
      | (refine bodyPost_ret (results_none rfl _ _ _) rfl ?_)
    rw [HE.out]
    exact ⟨rfl, H2.out.1, H1.out.2.trans H2.out.2⟩
end
end Go.Proofs.YtkbopeoaoakfnaaDoor
