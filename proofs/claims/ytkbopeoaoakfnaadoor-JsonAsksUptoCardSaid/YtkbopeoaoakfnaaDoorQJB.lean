/- The texts J5 J6 of this work, merged by wip/merge.py. No conditions. -/
import Derived.Test.YtkbopeoaoakfnaaDoorQJA
import Derived.Deep.Cut
import Derived.Deep.DeepCutAuto
namespace Go.Proofs.YtkbopeoaoakfnaaDoor
open Go.RowKit
/-- The parser at g has come from w0 to w; its state is st. -/
structure At (w0 : World) (base g : Nat) (s : List UInt8) (w : World) (st : PS) : Prop where
  ps : Ps w base g s st
  turn : Turn g w0 w
  base_ : base ≤ w0.heap.size
  len8 : s.length ≤ 8192
  glt : g < w0.heap.size
section
variable {w0 w w' : World} {base g : Nat} {s : List UInt8} {st : PS}
theorem At.start (h : Ps w base g s st) (hb : base ≤ w.heap.size) (hl : s.length ≤ 8192) : At w base g s w st := ⟨h, .refl _ _, hb, hl, h.lt⟩
theorem At.basew (h : At w0 base g s w st) : base ≤ w.heap.size := Nat.le_trans h.base_ h.turn.size
theorem At.step {st' : PS} (h : At w0 base g s w st) (h1 : Ps w' base g s st') (h2 : Turn g w w') : At w0 base g s w' st' := ⟨h1, h.turn.trans h2, h.base_, h.len8, h.glt⟩
theorem At.below (h : At w0 base g s w st) (hb : Below w.heap.size w w') : At w0 base g s w' st := h.step (h.ps.below hb) (.of_below hb)
theorem At.put {k : Nat} (h : At w0 base g s w st) (hk : k ≤ s.length) : At w0 base g s (w.setCell ⟨g, 1, none⟩ (.int .i64 (k : Int))) (st.to k) := h.step (h.ps.put1 hk).1 (h.ps.put1 hk).2
/-- What the walk reads of the parser. -/
theorem At.cells (h : At w0 base g s w st) : w.cell? ⟨g, 0, none⟩ = some (.string ⟨s.toArray⟩) ∧ w.cell? ⟨g, 1, none⟩ = some (.int .i64 (st.at_ : Int)) ∧ w.cell? ⟨g, 2, none⟩ = some (.int .i64 st.depth) ∧ (∀ i, w.frozen? ⟨g, i, none⟩ = false) := ⟨h.ps.at_.1, h.ps.at_.2.1, h.ps.at_.2.2, h.ps.unfrozen⟩
theorem At.atI (h : At w0 base g s w st) : (0 : Int) ≤ (st.at_ : Int) ∧ (st.at_ : Int) ≤ 8192 := by have h1 := h.ps.len; have h2 := h.len8; omega
theorem At.fault (h : At w0 base g s w st) : ∃ fp : Option Addr, w.cell? ⟨g, 3, none⟩ = some (.pointer fp) ∧ fp.isNone = decide (st.fault = none) := by
  cases hf : st.fault with
  | none => exact ⟨none, h.ps.none_ hf, rfl⟩
  | some x =>
    obtain ⟨a, e⟩ := x
    obtain ⟨f, c, _, _⟩ := h.ps.some_ hf
    exact ⟨_, c, rfl⟩
theorem fail_at (h : At w0 base g s w st) (a e : Int) : Calls Tryd.prog 33 #[.pointer (some ⟨g, 0, none⟩), .int .i64 a, .int .i64 e] w fun x w' => x = .returned (.tuple #[]) ∧ At w0 base g s w' (st.fail a e) :=
  (fail_any h.ps h.basew a e).mono fun _ _ ⟨h1, h2, h3⟩ => ⟨h1, h.step h2 h3⟩
theorem next_at (h : At w0 base g s w st) (c : UInt8) : Calls Tryd.prog 86 #[.pointer (some ⟨g, 0, none⟩), .int .u8 (c.toNat : Int)] w fun x w' => x = .returned (.bool (st.sees s c)) ∧ At w0 base g s w' (st.next s c) :=
  (next_any h.ps c h.len8).mono fun _ _ ⟨h1, h2, h3⟩ => ⟨h1, h.step h2 h3⟩
theorem next_lit (c : UInt8) (n : Int) (hn : (c.toNat : Int) = n) (h : At w0 base g s w st) : Calls Tryd.prog 86 #[.pointer (some ⟨g, 0, none⟩), .int .u8 n] w fun x w' => x = .returned (.bool (st.sees s c)) ∧ At w0 base g s w' (st.next s c) := by
  subst hn; exact next_at h c
theorem must_at (h : At w0 base g s w st) (c : UInt8) : Calls Tryd.prog 81 #[.pointer (some ⟨g, 0, none⟩), .int .u8 (c.toNat : Int)] w fun x w' => x = .returned (.tuple #[]) ∧ At w0 base g s w' (st.must s c) :=
  (must_any h.ps h.basew c h.len8).mono fun _ _ ⟨h1, h2, h3⟩ => ⟨h1, h.step h2 h3⟩
theorem blanks_at (h : At w0 base g s w st) : Calls Tryd.prog 31 #[.pointer (some ⟨g, 0, none⟩)] w fun x w' => x = .returned (.tuple #[]) ∧ At w0 base g s w' (st.blanks s) :=
  (blanks_any h.ps h.len8).mono fun _ _ ⟨h1, h2, h3⟩ => ⟨h1, h.step h2 h3⟩
theorem digits_at (h : At w0 base g s w st) : Calls Tryd.prog 87 #[.pointer (some ⟨g, 0, none⟩)] w fun x w' => x = .returned (.tuple #[]) ∧ At w0 base g s w' (st.digits s) :=
  (digits_any h.ps h.basew h.len8).mono fun _ _ ⟨h1, h2, h3⟩ => ⟨h1, h.step h2 h3⟩
theorem rest_at (h : At w0 base g s w st) : Calls Tryd.prog 57 #[.pointer (some ⟨g, 0, none⟩)] w fun x w' => x = .returned (.string ⟨(s.drop st.at_).toArray⟩) ∧ At w0 base g s w' st :=
  (rest_any h.ps).mono fun _ _ ⟨h1, _, h2⟩ => ⟨h1, h.below (below_drewN' h2)⟩
theorem At.cast {st' : PS} (h : At w0 base g s w st) (e : st = st') : At w0 base g s w st' := e ▸ h
theorem PS.next_no {st : PS} {s : List UInt8} {c : UInt8} (h : st.sees s c = false) : st.next s c = st := by unfold PS.next; rw [h]; rfl
theorem PS.next_yes {st : PS} {s : List UInt8} {c : UInt8} (h : st.sees s c = true) : st.next s c = st.to (st.at_ + 1) := by unfold PS.next; rw [h]; rfl
theorem sees_other {st : PS} {s : List UInt8} {c d : UInt8} (h : st.sees s c = true) (hd : c ≠ d) : st.sees s d = false := by
  unfold PS.sees at *
  rw [beq_iff_eq] at h
  rw [h]
  simp [hd]
theorem PS.numC_no {B : PS} (hc : ¬ (B.fault = none ∧ (B.sees s 101 = true ∨ B.sees s 69 = true))) : (if B.fault = none then (if B.sees s 101 = true then B.next s 101 else B.next s 69) else B) = B.numC s := by
  by_cases hf : B.fault = none
  · have h1 : B.sees s 101 = false := by cases h : B.sees s 101 with | false => rfl | true => exact absurd ⟨hf, .inl h⟩ hc
    have h2 : B.sees s 69 = false := by cases h : B.sees s 69 with | false => rfl | true => exact absurd ⟨hf, .inr h⟩ hc
    simp [PS.numC, hf, h1, h2, PS.next_no h2]
  · simp [PS.numC, hf]
set_option maxRecDepth 100000 in
set_option maxHeartbeats 400000 in
theorem number_at (h : At w0 base g s w st) : Calls Tryd.prog 62 #[.pointer (some ⟨g, 0, none⟩)] w fun x w' => x = .returned (.string ⟨(st.numS s).toArray⟩) ∧ At w0 base g s w' (st.numb s) := by
  obtain ⟨c0, c1, c2, fz⟩ := h.cells
  go_enter Tryd.func62, Tryd.ntmps62
  go_upto_if 12 with (first
      | (go_at_call_of 86 (Value.int IntKind.u8 45); go_must (refine (next_lit 45 45 rfl (by assumption)).mono ?_; rintro e w1 ⟨rfl, h1⟩; obtain ⟨c0_, c1_, c2_, fz_⟩ := h1.cells; obtain ⟨fp, c3, hfp⟩ := h1.fault))
      | (go_at_call_of 86 (Value.int IntKind.u8 48); go_must (refine (next_lit 48 48 rfl (by assumption)).mono ?_; rintro e w1 ⟨rfl, h1⟩; obtain ⟨c0_, c1_, c2_, fz_⟩ := h1.cells; obtain ⟨fp, c3, hfp⟩ := h1.fault))
      | (go_at_call 87; go_must (refine (digits_at (by assumption)).mono ?_; rintro e w1 ⟨rfl, h1⟩; obtain ⟨c0_, c1_, c2_, fz_⟩ := h1.cells; obtain ⟨fp, c3, hfp⟩ := h1.fault)))
  go_cut [] from 4 (fun w' => At w0 base g s w' (st.numA s))
  case first =>
    go_wp2_with (first
      | (go_at_call_of 86 (Value.int IntKind.u8 45); go_must (refine (next_lit 45 45 rfl (by assumption)).mono ?_; rintro e w1 ⟨rfl, h1⟩; obtain ⟨c0_, c1_, c2_, fz_⟩ := h1.cells; obtain ⟨fp, c3, hfp⟩ := h1.fault))
      | (go_at_call_of 86 (Value.int IntKind.u8 48); go_must (refine (next_lit 48 48 rfl (by assumption)).mono ?_; rintro e w1 ⟨rfl, h1⟩; obtain ⟨c0_, c1_, c2_, fz_⟩ := h1.cells; obtain ⟨fp, c3, hfp⟩ := h1.fault))
      | (go_at_call 87; go_must (refine (digits_at (by assumption)).mono ?_; rintro e w1 ⟨rfl, h1⟩; obtain ⟨c0_, c1_, c2_, fz_⟩ := h1.cells; obtain ⟨fp, c3, hfp⟩ := h1.fault)))
    · rename_i hs
      have hs' : (st.next s 45).sees s 48 = false := by simpa using hs
      go_meet
      case rel => exact h1.cast (by rw [PS.next_no hs']; simp [PS.numA, hs'])
    · rename_i hs
      have hs' : (st.next s 45).sees s 48 = true := by simpa using hs
      go_meet
      case rel => exact h1.cast (by simp [PS.numA, hs'])
  case rest =>
    obtain ⟨A, hAe⟩ : ∃ A, A = st.numA s := ⟨_, rfl⟩
    rw [← hAe] at hcut
    have hA := hcut
    have HAe := Lib.hid hAe
    clear hcut hAe c0 c1 c2 fz h
    obtain ⟨c0_, c1_, c2_, fz_⟩ := hA.cells
    obtain ⟨fp, c3, hfp⟩ := hA.fault
    go_upto_region 5 with fail
    go_cut [23] from 4 (fun v w' => v = .bool (decide (A.fault = none ∧ A.sees s 46 = true)) ∧ At w0 base g s w' (if A.fault = none then A.next s 46 else A))
    case first =>
      go_wp2_with (first
      | (go_at_call_of 86 (Value.int IntKind.u8 46); go_must (refine (next_lit 46 46 rfl (by assumption)).mono ?_; rintro e w1 ⟨rfl, h1⟩; obtain ⟨c0_, c1_, c2_, fz_⟩ := h1.cells; obtain ⟨fp, c3, hfp⟩ := h1.fault))
      | (go_at_call 87; go_must (refine (digits_at (by assumption)).mono ?_; rintro e w1 ⟨rfl, h1⟩; obtain ⟨c0_, c1_, c2_, fz_⟩ := h1.cells; obtain ⟨fp, c3, hfp⟩ := h1.fault)))
      · rename_i hf
        go_meet
        case rel => exact ⟨by simp [hf], h1.cast (by simp [hf])⟩
      · rename_i hf
        go_meet
        case rel => exact ⟨by simp [hf], hA.cast (by simp [hf])⟩
    case rest =>
      obtain ⟨rfl, hB⟩ := hcut
      clear hA c0_ c1_ c2_ fz_ c3 hfp
      go_upto_if 23 with fail
      go_cut [] from 4 (fun w' => At w0 base g s w' (A.numB s))
      case first =>
        by_cases hc : A.fault = none ∧ A.sees s 46 = true
        · have hcb : decide (A.fault = none ∧ A.sees s 46 = true) = true := by simp [hc]
          rw [hcb]
          go_wp2_with (go_at_call 87; go_must (refine (digits_at (by assumption)).mono ?_; rintro e w1 ⟨rfl, h1⟩; obtain ⟨c0_, c1_, c2_, fz_⟩ := h1.cells; obtain ⟨fp, c3, hfp⟩ := h1.fault))
          go_meet
          case rel => exact h1.cast (by rw [if_pos hc.1]; unfold PS.numB; rw [if_pos hc])
        · have hcb : decide (A.fault = none ∧ A.sees s 46 = true) = false := by simpa using hc
          rw [hcb]
          go_wp2_with (go_at_call 87; go_must (refine (digits_at (by assumption)).mono ?_; rintro e w1 ⟨rfl, h1⟩; obtain ⟨c0_, c1_, c2_, fz_⟩ := h1.cells; obtain ⟨fp, c3, hfp⟩ := h1.fault))
          go_meet
          case rel =>
            refine hB.cast ?_
            unfold PS.numB
            rw [if_neg hc]
            split
            · rename_i hf
              exact PS.next_no (by simpa [hf] using hc)
            · rfl
      case rest =>
        obtain ⟨B, hBe⟩ : ∃ B, B = A.numB s := ⟨_, rfl⟩
        rw [← hBe] at hcut
        have hB2 := hcut
        have HBe := Lib.hid hBe
        clear hcut hBe hB
        obtain ⟨c0_, c1_, c2_, fz_⟩ := hB2.cells
        obtain ⟨fp, c3, hfp⟩ := hB2.fault
        go_upto_region 7 with fail
        go_cut [38] from 4 (fun v w' => v = .bool (decide (B.fault = none ∧ (B.sees s 101 = true ∨ B.sees s 69 = true))) ∧ At w0 base g s w' (if B.fault = none then (if B.sees s 101 = true then B.next s 101 else B.next s 69) else B))
        case first =>
          by_cases hf : B.fault = none
          · by_cases h101 : B.sees s 101 = true
            · go_wp2_with (first
      | (go_at_call_of 86 (Value.int IntKind.u8 101); go_must (refine (next_lit 101 101 rfl (by assumption)).mono ?_; rintro e w1 ⟨rfl, h1⟩; obtain ⟨c0_, c1_, c2_, fz_⟩ := h1.cells; obtain ⟨fp, c3, hfp⟩ := h1.fault))
      | (go_at_call_of 86 (Value.int IntKind.u8 69); go_must (refine (next_lit 69 69 rfl (by assumption)).mono ?_; rintro e w1 ⟨rfl, h1⟩; obtain ⟨c0_, c1_, c2_, fz_⟩ := h1.cells; obtain ⟨fp, c3, hfp⟩ := h1.fault))
      | (go_at_call 87; go_must (refine (digits_at (by assumption)).mono ?_; rintro e w1 ⟨rfl, h1⟩; obtain ⟨c0_, c1_, c2_, fz_⟩ := h1.cells; obtain ⟨fp, c3, hfp⟩ := h1.fault)))
              go_meet
              case rel => exact ⟨by simp [hf, h101], h1.cast (by simp [hf, h101])⟩
            · have h101' : B.sees s 101 = false := by simpa using h101
              have hnx := PS.next_no h101'
              go_wp2_with (first
      | (go_at_call_of 86 (Value.int IntKind.u8 101); go_must (refine (next_lit 101 101 rfl (by assumption)).mono ?_; rintro e w1 ⟨rfl, h1⟩; obtain ⟨c0_, c1_, c2_, fz_⟩ := h1.cells; obtain ⟨fp, c3, hfp⟩ := h1.fault))
      | (go_at_call_of 86 (Value.int IntKind.u8 69); go_must (refine (next_lit 69 69 rfl (by assumption)).mono ?_; rintro e w1 ⟨rfl, h1⟩; obtain ⟨c0_, c1_, c2_, fz_⟩ := h1.cells; obtain ⟨fp, c3, hfp⟩ := h1.fault))
      | (go_at_call 87; go_must (refine (digits_at (by assumption)).mono ?_; rintro e w1 ⟨rfl, h1⟩; obtain ⟨c0_, c1_, c2_, fz_⟩ := h1.cells; obtain ⟨fp, c3, hfp⟩ := h1.fault)))
              go_meet
              case rel => exact ⟨by simp [hf, h101'], h1.cast (by simp [hf, h101', hnx])⟩
          · go_wp2_with (first
      | (go_at_call_of 86 (Value.int IntKind.u8 101); go_must (refine (next_lit 101 101 rfl (by assumption)).mono ?_; rintro e w1 ⟨rfl, h1⟩; obtain ⟨c0_, c1_, c2_, fz_⟩ := h1.cells; obtain ⟨fp, c3, hfp⟩ := h1.fault))
      | (go_at_call_of 86 (Value.int IntKind.u8 69); go_must (refine (next_lit 69 69 rfl (by assumption)).mono ?_; rintro e w1 ⟨rfl, h1⟩; obtain ⟨c0_, c1_, c2_, fz_⟩ := h1.cells; obtain ⟨fp, c3, hfp⟩ := h1.fault))
      | (go_at_call 87; go_must (refine (digits_at (by assumption)).mono ?_; rintro e w1 ⟨rfl, h1⟩; obtain ⟨c0_, c1_, c2_, fz_⟩ := h1.cells; obtain ⟨fp, c3, hfp⟩ := h1.fault)))
            go_meet
            case rel => exact ⟨by simp [hf], hB2.cast (by simp [hf])⟩
        case rest =>
          obtain ⟨rfl, hC⟩ := hcut
          clear hB2 c0_ c1_ c2_ fz_ c3 hfp
          go_upto_if 38 with fail
          go_cut [] from 4 (fun w' => At w0 base g s w' (B.numC s))
          case first =>
            by_cases hc : B.fault = none ∧ (B.sees s 101 = true ∨ B.sees s 69 = true)
            · have hcb : decide (B.fault = none ∧ (B.sees s 101 = true ∨ B.sees s 69 = true)) = true := by simp [hc]
              rw [hcb]
              rw [if_pos hc.1] at hC
              have hfin : B.numC s = (if B.sees s 101 = true then B.next s 101 else B.next s 69).numD s := by
                unfold PS.numC
                by_cases h1 : B.sees s 101 = true
                · rw [if_pos ⟨hc.1, h1⟩, if_pos h1]
                · rw [if_neg (fun h => h1 h.2), if_neg h1, if_pos ⟨hc.1, hc.2.resolve_left h1⟩]
              obtain ⟨D, hD⟩ : ∃ D, D = if B.sees s 101 = true then B.next s 101 else B.next s 69 := ⟨_, rfl⟩
              rw [← hD] at hC hfin
              have HF := Lib.hid hfin
              clear hfin hD hcb hc
              go_wp2_with (first
      | (go_at_call_of 86 (Value.int IntKind.u8 43); go_must (refine (next_lit 43 43 rfl (by assumption)).mono ?_; rintro e w1 ⟨rfl, h1⟩; obtain ⟨c0_, c1_, c2_, fz_⟩ := h1.cells; obtain ⟨fp, c3, hfp⟩ := h1.fault))
      | (go_at_call_of 86 (Value.int IntKind.u8 45); go_must (refine (next_lit 45 45 rfl (by assumption)).mono ?_; rintro e w1 ⟨rfl, h1⟩; obtain ⟨c0_, c1_, c2_, fz_⟩ := h1.cells; obtain ⟨fp, c3, hfp⟩ := h1.fault))
      | (go_at_call 87; go_must (refine (digits_at (by assumption)).mono ?_; rintro e w1 ⟨rfl, h1⟩; obtain ⟨c0_, c1_, c2_, fz_⟩ := h1.cells; obtain ⟨fp, c3, hfp⟩ := h1.fault)))
              · have hs' : D.sees s 43 = false := by simpa using (by assumption : (!D.sees s 43) = true)
                go_meet
                case rel => exact h1.cast (by rw [HF.out, PS.next_no hs']; simp [PS.numD, hs'])
              · have hs' : D.sees s 43 = true := by simpa using (by assumption : (!D.sees s 43) = false)
                go_meet
                case rel => exact h1.cast (by rw [HF.out]; simp [PS.numD, hs'])
            · have hcb : decide (B.fault = none ∧ (B.sees s 101 = true ∨ B.sees s 69 = true)) = false := by simpa using hc
              rw [hcb]
              go_wp2_with (go_at_call 87; go_must (refine (digits_at (by assumption)).mono ?_; rintro e w1 ⟨rfl, h1⟩; obtain ⟨c0_, c1_, c2_, fz_⟩ := h1.cells; obtain ⟨fp, c3, hfp⟩ := h1.fault))
              go_meet
              case rel =>
                exact hC.cast (PS.numC_no hc)
          case rest =>
            have hn : B.numC s = st.numb s := by unfold PS.numb; rw [HBe.out, HAe.out]
            rw [hn] at hcut
            have hE := hcut
            obtain ⟨c0, c1, c2, fz⟩ := hE.cells
            have hle := hE.ps.len
            have hge := PS.numb_le st s
            have HX := Lib.hid (extract_mid s st.at_ (st.numb s).at_)
            obtain ⟨sb, hsb⟩ : ∃ sb : ByteArray, sb = ⟨s.toArray⟩ := ⟨_, rfl⟩
            have hsz : sb.size = s.length := by rw [hsb]; simp [ByteArray.size]
            have HSB := Lib.hid hsb
            rw [← hsb] at c0
            have h0 : (0 : Int) ≤ (st.at_ : Int) := by omega
            have h1 : (st.at_ : Int) ≤ ((st.numb s).at_ : Int) := by omega
            have h2 : ((st.numb s).at_ : Int) ≤ (sb.size : Int) := by omega
            have h3 : (0 : Int) ≤ ((st.numb s).at_ : Int) := by omega
            clear hsb hsz hle hge hn hcut hC
            go_wp2
            go_quiet (fail)
            go_wp2
            go_ret
            refine ⟨?_, hE.below (below_drewN' (n := nq) rfl)⟩
            rw [HSB.out, HX.out]
            rfl
end
end Go.Proofs.YtkbopeoaoakfnaaDoor

namespace Go.Proofs.YtkbopeoaoakfnaaDoor
open Go.RowKit
section
variable {w0 w w' : World} {base g : Nat} {s : List UInt8} {st : PS}
theorem word_drop {W : List UInt8} {i : Nat} (h : i < W.length) : W.drop i = W[i] :: W.drop (i + 1) := List.drop_eq_getElem_cons h
set_option maxRecDepth 100000 in
set_option maxHeartbeats 400000 in
theorem word_at (W : List UInt8) (hW : W.length ≤ 100) (hf : st.fault = none) (h : At w0 base g s w st) : Calls Tryd.prog 61 #[.pointer (some ⟨g, 0, none⟩), .string ⟨W.toArray⟩] w fun x w' => x = .returned (.tuple #[]) ∧ At w0 base g s w' (st.word s W) := by
  have hsz : (⟨W.toArray⟩ : ByteArray).size = W.length := by simp [ByteArray.size]
  have HF := Lib.hid hf
  clear hf
  go_enter Tryd.func61, Tryd.ntmps61
  go_wp2
  go_loopw [7] (fun v wr => ∃ (k : Nat) (sk : PS), k ≤ W.length ∧ v = .int .i64 (k : Int) ∧ At w0 base g s wr sk ∧ sk.fault = none ∧ sk.word s (W.drop k) = st.word s W) (fun v _ => W.length - (intOf v).toNat)
  case atStart => exact ⟨0, st, Nat.zero_le _, rfl, h, HF.out, rfl⟩
  case round =>
    obtain ⟨k, sk, hk, rfl, hA, hsf, hword⟩ := hrel
    have HS := Lib.hid hsf
    have HW := Lib.hid hword
    clear hsf hword h
    by_cases hlt : k < W.length
    · have hkI : (k : Int) < (W.length : Int) := by omega
      have h0 : (0 : Int) ≤ (k : Int) := by omega
      have hI2 : (W.length : Int) ≤ 100 := by omega
      have hd : decide (k < W.length) = true := by simp; exact hlt
      have HLT := Lib.hid hlt
      clear hlt
      go_wp2_with (go_at_call 81; go_must (refine (must_at (by assumption) _).mono ?_; rintro e w1 ⟨rfl, h1⟩; obtain ⟨c0_, c1_, c2_, fz_⟩ := h1.cells; obtain ⟨fp, c3, hfp⟩ := h1.fault))
      · have hq : ¬ (sk.must s (⟨W.toArray⟩ : ByteArray)[k]).fault = none := by simpa using (by assumption : (!decide ((sk.must s (⟨W.toArray⟩ : ByteArray)[k]).fault = none)) = true)
        first
          | go_end0
          | (refine bodyPost_ret (results_none rfl _ _ _) rfl ?_)
        refine ⟨rfl, h1.cast ?_⟩
        rw [← HW.out, word_drop HLT.out]
        unfold PS.word
        exact (if_neg hq).symm
      · have hq : (sk.must s (⟨W.toArray⟩ : ByteArray)[k]).fault = none := by simpa using (by assumption : (!decide ((sk.must s (⟨W.toArray⟩ : ByteArray)[k]).fault = none)) = false)
        go_roundw
        case rel =>
          refine ⟨k + 1, _, HLT.out, by go_num, h1, hq, ?_⟩
          rw [← HW.out, word_drop HLT.out]
          show _ = PS.word sk s (W[k] :: W.drop (k + 1))
          conv => rhs; unfold PS.word
          exact (if_pos hq).symm
        case measure => have h_ := HLT.out; simp [intOf]; omega
    · obtain rfl : k = W.length := by omega
      have hd : decide (W.length < W.length) = false := by simp
      go_wp2
      first
        | go_end0
        | (refine bodyPost_ret (results_none rfl _ _ _) rfl ?_)
      refine ⟨rfl, hA.cast ?_⟩
      rw [← HW.out, List.drop_length]
      rfl
theorem Ps.putD (h : Ps w base g s st) (d : Int) : Ps (w.setCell ⟨g, 2, none⟩ (.int .i64 d)) base g s { st with depth := d } ∧ Turn g w (w.setCell ⟨g, 2, none⟩ (.int .i64 d)) := by
  obtain ⟨p, h1, h2, h3, h4⟩ := h
  refine ⟨⟨p, heap_setCell_same _ _ _ _ _ _ h1, h2, h3, ?_⟩, (Turn.refl g w).setCell _⟩
  show FaultAt _ base g p st.fault
  revert h4
  cases st.fault with
  | none => exact id
  | some x => rintro ⟨f, e, h5, h6, h7⟩; exact ⟨f, e, h5, h6, (heap_setCell_other _ _ _ _ h6).trans h7⟩
theorem At.putD (h : At w0 base g s w st) (d : Int) : At w0 base g s (w.setCell ⟨g, 2, none⟩ (.int .i64 d)) { st with depth := d } := h.step (h.ps.putD d).1 (h.ps.putD d).2
set_option maxRecDepth 100000 in
set_option maxHeartbeats 400000 in
theorem open_at (h : At w0 base g s w st) (hd0 : 0 ≤ st.depth) (hd1 : st.depth ≤ 100) (hlt : st.at_ < s.length) : Calls Tryd.prog 105 #[.pointer (some ⟨g, 0, none⟩)] w fun x w' => x = .returned (.tuple #[]) ∧ At w0 base g s w' (st.open_ s) := by
  obtain ⟨c0, c1, c2, fz⟩ := h.cells
  have h2 := h.putD (st.depth + 1)
  obtain ⟨d0, d1, d2, fz2⟩ := h2.cells
  obtain ⟨a0, a1⟩ := h.atI
  have hpos : ∀ (w3 : World) (s3 : PS), At w0 base g s w3 s3 → s3.at_ = st.at_ → At w0 base g s (w3.setCell ⟨g, 1, none⟩ (.int .i64 ((st.at_ : Int) + 1))) (s3.to (st.at_ + 1)) := by
    intro w3 s3 h3 h4
    have h5 := h3.put (k := st.at_ + 1) hlt
    rwa [show ((st.at_ + 1 : Nat) : Int) = (st.at_ : Int) + 1 by omega] at h5
  have HPOS := Lib.hid hpos
  clear hpos hlt
  go_enter Tryd.func105, Tryd.ntmps105
  by_cases hbig : 16 < st.depth + 1
  · have hbd : decide (16 < st.depth + 1) = true := by simp; omega
    have hbd2 : decide (st.depth + 1 > 16) = true := by simp; omega
    have HO : Hid (st.openA = ({ st with depth := st.depth + 1 } : PS).fail st.at_ 6) := by show _ = _; unfold PS.openA; rw [if_pos hbig]; rfl
    clear hbig
    go_wp2_with (first
      | (go_at_call 33; go_must (refine (fail_at h2 _ _).mono ?_; rintro e w1 ⟨rfl, h1⟩; obtain ⟨c0_, c1_, c2_, fz_⟩ := h1.cells; rw [PS.fail_at] at c1_; have h3 := HPOS.out w1 _ h1 (PS.fail_at _ _ _)))
      | (go_at_call 31; go_must (refine (blanks_at h3).mono ?_; rintro e w4 ⟨rfl, h4⟩)))
    first
      | go_end0
      | (refine bodyPost_ret (results_none rfl _ _ _) rfl ?_)
    exact ⟨rfl, h4.cast (by unfold PS.open_; rw [HO.out])⟩
  · have hbd : decide (16 < st.depth + 1) = false := by simp; omega
    have hbd2 : decide (st.depth + 1 > 16) = false := by simp; omega
    have HO : Hid (st.openA = ({ st with depth := st.depth + 1 } : PS)) := by show _ = _; unfold PS.openA; rw [if_neg hbig]; rfl
    have h3 := HPOS.out _ _ h2 rfl
    clear hbig
    go_wp2_with (go_at_call 31; go_must (refine (blanks_at h3).mono ?_; rintro e w4 ⟨rfl, h4⟩))
    first
      | go_end0
      | (refine bodyPost_ret (results_none rfl _ _ _) rfl ?_)
    exact ⟨rfl, h4.cast (by unfold PS.open_; rw [HO.out])⟩
end
end Go.Proofs.YtkbopeoaoakfnaaDoor
