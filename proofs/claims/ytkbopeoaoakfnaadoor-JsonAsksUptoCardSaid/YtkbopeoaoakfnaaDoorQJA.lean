/- The texts J1 J2 J3 J4 of this work, merged by wip/merge.py. No conditions. -/
import Derived.Test.YtkbopeoaoakfnaaDoorQG
import Derived.Test.YtkbopeoaoakfnaaDoorQP
import Derived.Deep.DeepMust
import Derived.Deep.LoopGhost
import Derived.Test.YtkbopeoaoakfnaaDoorQB
namespace Go.Proofs.YtkbopeoaoakfnaaDoor
open Go.RowKit
def FaultAt (w : World) (base g : Nat) (p : Value) : Option (Int × Int) → Prop
  | none => p = .pointer none
  | some (a, e) => ∃ f, p = .pointer (some ⟨f, 0, none⟩) ∧ base ≤ f ∧ f ≠ g ∧ w.heap[f]? = some (.cells #[.int .i64 a, .int .i64 e] 84 (0, 0))
/-- The parser of s at block g. -/
def Ps (w : World) (base g : Nat) (s : List UInt8) (st : PS) : Prop :=
  ∃ p, w.heap[g]? = some (.cells #[.string ⟨s.toArray⟩, .int .i64 (st.at_ : Int), .int .i64 st.depth, p] 80 (0, 0)) ∧ base ≤ g ∧ st.at_ ≤ s.length ∧ FaultAt w base g p st.fault
/-- The blocks of own may have been written; every other one is as it was. -/
structure Turn (g : Nat) (w w' : World) : Prop where
  os : w'.os = w.os
  tape : w'.tape = w.tape
  output : w'.output = w.output
  size : w.heap.size ≤ w'.heap.size
  block : ∀ k, k < w.heap.size → k ≠ g → w'.heap[k]? = w.heap[k]?
theorem Turn.refl (g : Nat) (w : World) : Turn g w w := ⟨rfl, rfl, rfl, Nat.le_refl _, fun _ _ _ => rfl⟩
theorem Turn.trans {g : Nat} {a b c : World} (h : Turn g a b) (h' : Turn g b c) : Turn g a c :=
  ⟨h'.os.trans h.os, h'.tape.trans h.tape, h'.output.trans h.output, Nat.le_trans h.size h'.size, fun k hk hn => (h'.block k (Nat.lt_of_lt_of_le hk h.size) hn).trans (h.block k hk hn)⟩
theorem Turn.of_below {g : Nat} {w w' : World} (h : Below w.heap.size w w') : Turn g w w' := ⟨h.os, h.tape, h.output, h.size, fun k hk _ => h.block k hk⟩
theorem Turn.setCell {g j : Nat} {a w : World} (h : Turn g a w) (v : Value) : Turn g a (w.setCell ⟨g, j, none⟩ v) :=
  ⟨h.os, h.tape, h.output, by simp [World.setCell]; exact h.size, fun k hk hn => (Below.heap_setCell _ _ _ _ hn).trans (h.block k hk hn)⟩
theorem Turn.drewN {g : Nat} {a w : World} (h : Turn g a w) (n : Nat) : Turn g a (w.drewN n) := ⟨h.os, h.tape, h.output, h.size, h.block⟩
section
variable {w w' : World} {base g : Nat} {s : List UInt8} {st : PS}
/-- Below B only the parser's block was written through. -/
structure TurnB (B g : Nat) (w w' : World) : Prop where
  os : w'.os = w.os
  tape : w'.tape = w.tape
  output : w'.output = w.output
  size : w.heap.size ≤ w'.heap.size
  block : ∀ k, k < B → k ≠ g → w'.heap[k]? = w.heap[k]?
theorem TurnB.refl (B g : Nat) (w : World) : TurnB B g w w := ⟨rfl, rfl, rfl, Nat.le_refl _, fun _ _ _ => rfl⟩
theorem TurnB.trans {B g : Nat} {a b c : World} (h : TurnB B g a b) (h' : TurnB B g b c) : TurnB B g a c :=
  ⟨h'.os.trans h.os, h'.tape.trans h.tape, h'.output.trans h.output, Nat.le_trans h.size h'.size, fun k hk hn => (h'.block k hk hn).trans (h.block k hk hn)⟩
theorem TurnB.of_below {B g : Nat} {w w' : World} (h : Below B w w') : TurnB B g w w' := ⟨h.os, h.tape, h.output, h.size, fun k hk _ => h.block k hk⟩
theorem Turn.toB {B g : Nat} {w w' : World} (h : Turn g w w') (hB : B ≤ w.heap.size) : TurnB B g w w' := ⟨h.os, h.tape, h.output, h.size, fun k hk hn => h.block k (by omega) hn⟩
theorem TurnB.turn {g : Nat} {w w' : World} (h : TurnB w.heap.size g w w') : Turn g w w' := ⟨h.os, h.tape, h.output, h.size, h.block⟩
theorem Ps.below (h : Ps w base g s st) (hb : Below w.heap.size w w') : Ps w' base g s st := by
  obtain ⟨p, h1, h2, h3, h4⟩ := h
  refine ⟨p, heap_below h1 hb, h2, h3, ?_⟩
  revert h4
  cases st.fault with
  | none => exact id
  | some x => rintro ⟨f, e, h5, h6, h7⟩; exact ⟨f, e, h5, h6, heap_below h7 hb⟩
theorem Ps.drewN (h : Ps w base g s st) (n : Nat) : Ps (w.drewN n) base g s st := h
theorem Ps.at_ (h : Ps w base g s st) : w.cell? ⟨g, 0, none⟩ = some (.string ⟨s.toArray⟩) ∧ w.cell? ⟨g, 1, none⟩ = some (.int .i64 (st.at_ : Int)) ∧ w.cell? ⟨g, 2, none⟩ = some (.int .i64 st.depth) := by
  obtain ⟨p, h1, _⟩ := h
  exact ⟨cell_of_row _ _ _ _ _ _ h1, cell_of_row _ _ _ _ _ _ h1, cell_of_row _ _ _ _ _ _ h1⟩
theorem Ps.none_ (h : Ps w base g s st) (hf : st.fault = none) : w.cell? ⟨g, 3, none⟩ = some (.pointer none) := by
  obtain ⟨p, h1, _, _, h4⟩ := h
  rw [hf] at h4
  have h5 : p = .pointer none := h4
  subst h5
  exact cell_of_row _ _ _ _ _ _ h1
theorem Ps.some_ (h : Ps w base g s st) {a e : Int} (hf : st.fault = some (a, e)) : ∃ f, w.cell? ⟨g, 3, none⟩ = some (.pointer (some ⟨f, 0, none⟩)) ∧ w.cell? ⟨f, 0, none⟩ = some (.int .i64 a) ∧ w.cell? ⟨f, 1, none⟩ = some (.int .i64 e) := by
  obtain ⟨p, h1, _, _, h4⟩ := h
  rw [hf] at h4
  obtain ⟨f, rfl, _, _, h7⟩ := h4
  exact ⟨f, cell_of_row _ _ _ _ _ _ h1, cell_of_row _ _ _ _ _ _ h7, cell_of_row _ _ _ _ _ _ h7⟩
theorem Ps.unfrozen (h : Ps w base g s st) : ∀ i, w.frozen? ⟨g, i, none⟩ = false := by
  obtain ⟨p, h1, _⟩ := h
  intro i
  exact frozen_row h1 i
set_option maxRecDepth 100000 in
set_option maxHeartbeats 1000000 in
theorem fail_any (h : Ps w base g s st) (hb : base ≤ w.heap.size) (a e : Int) : Calls Tryd.prog 33 #[.pointer (some ⟨g, 0, none⟩), .int .i64 a, .int .i64 e] w fun x w' => x = .returned (.tuple #[]) ∧ Ps w' base g s (st.fail a e) ∧ Turn g w w' := by
  have hfz := h.unfrozen
  have H := Lib.hid h
  have HB := Lib.hid hb
  cases hf : st.fault with
  | none =>
    have c3 := h.none_ hf
    have hfo := fun o => (h.below ((Below.refl _ _).alloc (Nat.le_refl _) o)).unfrozen 3
    have hco := fun o => (h.below ((Below.refl _ _).alloc (Nat.le_refl _) o)).none_ hf
    clear h hb
    go_enter Tryd.func33, Tryd.ntmps33
    go_wp2
    first
      | go_end0
      | (refine bodyPost_ret (results_none rfl _ _ _) rfl ?_)
    refine ⟨rfl, ?_, (Turn.of_below ((Below.refl _ _).alloc (Nat.le_refl _) _)).setCell _⟩
    obtain ⟨p, h1, h2, h3, h4⟩ := H.out
    have hlt := lt_of_heap h1
    have h5 := heap_below h1 ((Below.refl _ _).alloc (Nat.le_refl _) (.cells #[.int .i64 a, .int .i64 e] 84))
    have e1 : st.fail a e = { st with fault := some (a, e) } := by unfold PS.fail; rw [hf]
    rw [e1]
    refine ⟨.pointer (some ⟨w.heap.size, 0, none⟩), heap_setCell_same _ _ _ _ _ _ h5, h2, h3, w.heap.size, rfl, HB.out, by omega, ?_⟩
    exact (heap_setCell_other _ _ _ _ (show w.heap.size ≠ g by omega)).trans (heap_alloc_new w _)
  | some x =>
    obtain ⟨a0, e0⟩ := x
    obtain ⟨f, c3, _, _⟩ := h.some_ hf
    clear h hb
    go_enter Tryd.func33, Tryd.ntmps33
    go_wp2
    first
      | go_end0
      | (refine bodyPost_ret (results_none rfl _ _ _) rfl ?_)
    have e1 : st.fail a e = st := by unfold PS.fail; rw [hf]
    rw [e1]
    exact ⟨rfl, H.out, Turn.refl _ _⟩
end
end Go.Proofs.YtkbopeoaoakfnaaDoor

namespace Go.Proofs.YtkbopeoaoakfnaaDoor
open Go.RowKit
section
variable {w w' : World} {base g : Nat} {s : List UInt8} {st : PS}
theorem Ps.put1 (h : Ps w base g s st) {k : Nat} (hk : k ≤ s.length) : Ps (w.setCell ⟨g, 1, none⟩ (.int .i64 (k : Int))) base g s { st with at_ := k } ∧ Turn g w (w.setCell ⟨g, 1, none⟩ (.int .i64 (k : Int))) := by
  obtain ⟨p, h1, h2, h3, h4⟩ := h
  refine ⟨⟨p, heap_setCell_same _ _ _ _ _ _ h1, h2, hk, ?_⟩, (Turn.refl g w).setCell _⟩
  show FaultAt _ base g p st.fault
  revert h4
  cases st.fault with
  | none => exact id
  | some x => rintro ⟨f, e, h5, h6, h7⟩; exact ⟨f, e, h5, h6, (heap_setCell_other _ _ _ _ h6).trans h7⟩
set_option maxRecDepth 100000 in
set_option maxHeartbeats 1000000 in
theorem next_any (h : Ps w base g s st) (c : UInt8) (hl : s.length ≤ 8192) : Calls Tryd.prog 86 #[.pointer (some ⟨g, 0, none⟩), .int .u8 (c.toNat : Int)] w fun x w' => x = .returned (.bool (st.sees s c)) ∧ Ps w' base g s (st.next s c) ∧ Turn g w w' := by
  have hfz := h.unfrozen
  obtain ⟨c0, c1, c2⟩ := h.at_
  have H := Lib.hid h
  obtain ⟨p, _, _, hat, _⟩ := h
  have hsz : (⟨s.toArray⟩ : ByteArray).size = s.length := by simp [ByteArray.size]
  have hlI : (s.length : Int) ≤ 8192 := by omega
  by_cases hlt : st.at_ < s.length
  · have hd : decide (st.at_ < s.length) = true := by simp; exact hlt
    have hlt' : (st.at_ : Int) < (s.length : Int) := by omega
    have h0 : (0 : Int) ≤ (st.at_ : Int) := by omega
    go_enter Tryd.func86, Tryd.ntmps86
    go_wp2
    go_quiet (fail)
    have hq : ((((⟨s.toArray⟩ : ByteArray)[st.at_]'(by rw [hsz]; exact hlt)).toNat : Int) == (c.toNat : Int)) = st.sees s c := by
      have e1 : ((⟨s.toArray⟩ : ByteArray)[st.at_]'(by rw [hsz]; exact hlt)) = s[st.at_] := rfl
      rw [e1]
      unfold PS.sees
      rw [List.getElem?_eq_getElem hlt, Bool.eq_iff_iff]
      simp only [beq_iff_eq, Option.some.injEq]
      exact ⟨fun h => UInt8.toNat_inj.1 (by omega), fun h => by rw [h]⟩
    rw [hq]
    have HP := Lib.hid (H.out.put1 (k := st.at_ + 1) (by omega))
    clear hq
    cases hs : st.sees s c with
    | true =>
      have e2 : st.next s c = { st with at_ := st.at_ + 1 } := by unfold PS.next; rw [hs]; rfl
      have HE := Lib.hid e2
      have HS := Lib.hid hs
      go_wp2
      go_ret
      rw [HE.out, HS.out]
      exact ⟨rfl, HP.out.1, HP.out.2.drewN nq⟩
    | false =>
      have e2 : st.next s c = st := by unfold PS.next; rw [hs]; rfl
      have HE := Lib.hid e2
      have HS := Lib.hid hs
      go_wp2
      go_ret
      rw [HE.out, HS.out]
      exact ⟨rfl, H.out, (Turn.refl g w).drewN nq⟩
  · have hd : decide (st.at_ < s.length) = false := by simp; omega
    have hs : st.sees s c = false := by unfold PS.sees; rw [List.getElem?_eq_none (by omega)]; rfl
    have e2 : st.next s c = st := by unfold PS.next; rw [hs]; rfl
    have HE := Lib.hid e2
    go_enter Tryd.func86, Tryd.ntmps86
    go_wp2
    go_quiet (fail)
    go_wp2
    go_ret
    rw [HE.out, hs]
    exact ⟨rfl, H.out, (Turn.refl g w).drewN nq⟩
set_option maxRecDepth 100000 in
set_option maxHeartbeats 1000000 in
theorem must_any (h : Ps w base g s st) (hb : base ≤ w.heap.size) (c : UInt8) (hl : s.length ≤ 8192) : Calls Tryd.prog 81 #[.pointer (some ⟨g, 0, none⟩), .int .u8 (c.toNat : Int)] w fun x w' => x = .returned (.tuple #[]) ∧ Ps w' base g s (st.must s c) ∧ Turn g w w' := by
  have H := Lib.hid h
  have HB := Lib.hid hb
  have HL := Lib.hid hl
  clear h hb hl
  cases hs : st.sees s c with
  | true =>
    have HS := Lib.hid hs
    have e2 : st.must s c = st.next s c := by unfold PS.must PS.next; rw [hs]; rfl
    have HE := Lib.hid e2
    clear hs e2
    go_enter Tryd.func81, Tryd.ntmps81
    go_wp2_with (go_at_call 86; go_must (refine (next_any H.out c HL.out).mono ?_; rintro e w1 ⟨rfl, hp1, ht1⟩; rw [HS.out]; have H1 := Lib.hid (And.intro hp1 ht1); clear hp1 ht1))
    first
      | go_end0
      | (refine bodyPost_ret (results_none rfl _ _ _) rfl ?_)
    rw [HE.out]
    exact ⟨rfl, H1.out.1, H1.out.2⟩
  | false =>
    have HS := Lib.hid hs
    have e2 : st.must s c = st.fail st.at_ 2 := by unfold PS.must; rw [hs]; rfl
    have e3 : st.next s c = st := by unfold PS.next; rw [hs]; rfl
    have HE := Lib.hid e2
    have HE3 := Lib.hid e3
    clear hs e2 e3
    go_enter Tryd.func81, Tryd.ntmps81
    go_wp2_with (first
      | (go_at_call 86; go_must (refine (next_any H.out c HL.out).mono ?_; rintro e w1 ⟨rfl, hp1, ht1⟩; rw [HS.out]; rw [HE3.out] at hp1; obtain ⟨c0, c1, c2⟩ := hp1.at_; have H1 := Lib.hid (And.intro hp1 ht1); clear hp1 ht1))
      | (go_at_call 33; go_must (refine (fail_any H1.out.1 (Nat.le_trans HB.out H1.out.2.size) _ _).mono ?_; rintro e w2 ⟨rfl, hp2, ht2⟩; have H2 := Lib.hid (And.intro hp2 ht2); clear hp2 ht2)))
    first
      | go_end0
      | (refine bodyPost_ret (results_none rfl _ _ _) rfl ?_)
    rw [HE.out]
    exact ⟨rfl, H2.out.1, H1.out.2.trans H2.out.2⟩
end
end Go.Proofs.YtkbopeoaoakfnaaDoor

namespace Go.Proofs.YtkbopeoaoakfnaaDoor
open Go.RowKit
section
variable {w w' : World} {base g : Nat} {s : List UInt8} {st : PS}
theorem extract_drop (s : List UInt8) (k : Nat) : (⟨s.toArray⟩ : ByteArray).extract k (⟨s.toArray⟩ : ByteArray).size = ⟨(s.drop k).toArray⟩ := by
  apply ByteArray.ext
  rw [ByteArray.data_extract]
  simp [ByteArray.size]
  exact List.take_of_length_le (by simp)
theorem extract_mid (s : List UInt8) (j k : Nat) : (⟨s.toArray⟩ : ByteArray).extract j k = ⟨((s.drop j).take (k - j)).toArray⟩ := by
  apply ByteArray.ext
  rw [ByteArray.data_extract]
  simp
set_option maxRecDepth 100000 in
set_option maxHeartbeats 1000000 in
theorem rest_any (h : Ps w base g s st) : Calls Tryd.prog 57 #[.pointer (some ⟨g, 0, none⟩)] w fun x w' => x = .returned (.string ⟨(s.drop st.at_).toArray⟩) ∧ ∃ n, w' = w.drewN n := by
  obtain ⟨c0, c1, c2⟩ := h.at_
  obtain ⟨p, _, _, hat, _⟩ := h
  obtain ⟨k, hk⟩ : ∃ k, k = st.at_ := ⟨_, rfl⟩
  obtain ⟨sb, hsb⟩ : ∃ sb : ByteArray, sb = ⟨s.toArray⟩ := ⟨_, rfl⟩
  have hsz : sb.size = s.length := by rw [hsb]; simp [ByteArray.size]
  have h0 : (0 : Int) ≤ (k : Int) := by omega
  have h1 : (k : Int) ≤ (sb.size : Int) := by omega
  have hE := Lib.hid (show sb.extract k sb.size = ⟨(s.drop k).toArray⟩ by rw [hsb]; exact extract_drop s k)
  rw [← hsb] at c0
  rw [← hk] at c1 ⊢
  clear hsb hk hsz hat c2
  go_enter Tryd.func57, Tryd.ntmps57
  go_wp2
  go_quiet (fail)
  go_wp2
  go_ret
  exact ⟨by rw [hE.out]; rfl, _, rfl⟩
end
end Go.Proofs.YtkbopeoaoakfnaaDoor

namespace Go.Proofs.YtkbopeoaoakfnaaDoor
open Go.RowKit
section
variable {w w' : World} {base g : Nat} {s : List UInt8} {st : PS}
theorem blank_set : (fun c : UInt8 => [(32 : UInt8), 9, 10, 13].contains c) = blankB := by
  funext c
  simp [blankB, List.contains, List.elem]
  cases (c == 32) <;> cases (c == 9) <;> cases (c == 10) <;> cases (c == 13) <;> rfl
theorem digit_set : (fun c : UInt8 => [(48 : UInt8), 49, 50, 51, 52, 53, 54, 55, 56, 57].contains c) = digitB := by
  funext c
  rw [Bool.eq_iff_iff, List.contains_iff_mem]
  simp only [digitB, decide_eq_true_eq, List.mem_cons, List.not_mem_nil, or_false, ← UInt8.toNat_inj]
  simp
  omega
theorem run_drop (p : UInt8 → Bool) (l : List UInt8) : runB p l + (l.dropWhile p).length = l.length := by
  unfold runB
  rw [← List.length_append, List.takeWhile_append_dropWhile]
theorem Ps.len (h : Ps w base g s st) : st.at_ ≤ s.length := by obtain ⟨p, _, _, h3, _⟩ := h; exact h3
theorem Ps.lt (h : Ps w base g s st) : g < w.heap.size := by obtain ⟨p, h1, _⟩ := h; exact lt_of_heap h1
theorem Ps.drewN' (h : Ps w base g s st) {n : Nat} (hw : w' = w.drewN n) : Ps w' base g s st := by subst hw; exact h
theorem below_drewN' {w w' : World} {B n : Nat} (hw : w' = w.drewN n) : Below B w w' := by subst hw; exact ⟨rfl, rfl, rfl, Nat.le_refl _, fun _ _ => rfl⟩
set_option maxRecDepth 100000 in
set_option maxHeartbeats 2000000 in
theorem blanks_any (h : Ps w base g s st) (hl : s.length ≤ 8192) : Calls Tryd.prog 31 #[.pointer (some ⟨g, 0, none⟩)] w fun x w' => x = .returned (.tuple #[]) ∧ Ps w' base g s (st.blanks s) ∧ Turn g w w' := by
  have H := Lib.hid h
  have hrd := run_drop blankB (s.drop st.at_)
  have hat := h.len
  rw [List.length_drop] at hrd
  obtain ⟨sb, hsb⟩ : ∃ sb : ByteArray, sb = ⟨s.toArray⟩ := ⟨_, rfl⟩
  obtain ⟨rb, hrb⟩ : ∃ rb : ByteArray, rb = ⟨((s.drop st.at_).dropWhile blankB).toArray⟩ := ⟨_, rfl⟩
  have hsz : sb.size = s.length := by rw [hsb]; simp [ByteArray.size]
  have hrz : rb.size = ((s.drop st.at_).dropWhile blankB).length := by rw [hrb]; simp [ByteArray.size]
  have C0 : Hid (∀ w', Below w.heap.size w w' → w'.cell? ⟨g, 0, none⟩ = some (.string sb)) := fun w' h' => by rw [hsb]; exact (h.below h').at_.1
  have RB := Lib.hid hrb
  have HK := Lib.hid (show sb.size - rb.size = st.at_ + runB blankB (s.drop st.at_) by omega)
  have h1 : (rb.size : Int) ≤ (sb.size : Int) := by omega
  have h2 : (sb.size : Int) ≤ 8192 := by omega
  have hK2 := Lib.hid (show st.at_ + runB blankB (s.drop st.at_) ≤ s.length by omega)
  have C9 := Lib.hid hsb
  clear hsb hrb hsz hrz hrd hat h hl
  go_enter Tryd.func31, Tryd.ntmps31
  go_wp2
  refine AnyC.startB (fun w' => Turn g w w' ∧ w'.cell? ⟨g, 0, none⟩ = some (.string sb)) (by kernel_rfl) rfl ?_
  intro w1 hb1 hs1
  have B1 := Lib.hid hb1
  clear hb1 hs1
  apply AnyC.take (i := 0) rfl (by kernel_rfl) rfl
  · intro w' hC K hK
    go_wp2
    exact hK
  · rfl
  apply AnyC.take (i := 1) rfl (by kernel_rfl) rfl
  · intro w' hC K hK
    go_wp2
    exact hK
  · rfl
  apply AnyC.take (i := 2) rfl (by kernel_rfl) rfl
  · intro w' hC K hK
    go_wp2
    exact hK
  · rfl
  apply AnyC.take (i := 3) rfl (by kernel_rfl) rfl
  · intro w' hC K hK
    go_wp2
    exact hK
  · rfl
  apply AnyC.take (i := 4) rfl (by kernel_rfl) rfl
  · intro w' hC K hK
    have cc := hC.2
    go_wp2
    exact hK
  · rfl
  apply AnyC.take (i := 5) rfl (by kernel_rfl) rfl
  · intro w' hC K hK
    go_wp2
    exact hK
  · rfl
  apply AnyC.take (i := 6) rfl (by kernel_rfl) rfl
  · intro w' hC K hK
    go_wp2
    exact hK
  · rfl
  apply AnyC.solo (i := 7) rfl (by kernel_rfl) ⟨.of_below B1.out, C0.out _ B1.out⟩
  go_wp2_with (go_at_call 57; go_must (refine (rest_any (H.out.below B1.out)).mono ?_; rintro e w2 ⟨rfl, n2, hw2⟩; have B2 := Lib.hid (B1.out.trans (below_drewN' (B := w.heap.size) hw2)); clear hw2))
  refine ⟨rfl, ?_⟩
  apply AnyC.solo (i := 8) rfl (by kernel_rfl) ⟨.of_below B2.out, C0.out _ B2.out⟩
  go_wp2_with (go_at_call 56; go_must (refine (trimLeft_any (s.drop st.at_) [32, 9, 10, 13] w2 (by decide) (by decide)).mono ?_; rw [blank_set]; rintro e w3 ⟨rfl, hb3⟩; have B3 := Lib.hid (B2.out.trans (hb3.mono B2.out.size)); rw [← RB.out]; clear hb3))
  refine ⟨rfl, ?_⟩
  apply AnyC.take (i := 9) rfl (by kernel_rfl) rfl
  · intro w' hC K hK
    go_wp2
    exact hK
  · rfl
  apply AnyC.take (i := 10) rfl (by kernel_rfl) rfl
  · intro w' hC K hK
    go_wp2
    exact hK
  · rfl
  apply AnyC.take (i := 11) rfl (by kernel_rfl) rfl
  · intro w' hC K hK
    go_wp2
    exact hK
  · rfl
  apply AnyC.take (i := 12) rfl (by kernel_rfl) rfl
  · intro w' hC K hK
    go_wp2
    exact hK
  · rfl
  apply AnyC.solo (i := 13) rfl (by kernel_rfl) ⟨.of_below B3.out, C0.out _ B3.out⟩
  have HB3 := H.out.below B3.out
  obtain ⟨c0, c1, c2⟩ := HB3.at_
  have fz := HB3.unfrozen
  have HP := Lib.hid (HB3.put1 hK2.out)
  clear HB3
  go_wp2
  refine ⟨rfl, ?_⟩
  have e1 : ((sb.size : Int) - (rb.size : Int)) = ((st.at_ + runB blankB (s.drop st.at_) : Nat) : Int) := by rw [← HK.out]; omega
  rw [e1]
  have HPQ := HP.out
  refine AnyC.done ⟨(Turn.of_below B3.out).trans HPQ.2, by rw [C9.out]; exact HPQ.1.at_.1⟩ (by kernel_rfl) ?_
  first
    | go_end0
    | (refine bodyPost_ret (results_none rfl _ _ _) rfl ?_)
  exact ⟨rfl, HPQ.1, (Turn.of_below B3.out).trans HPQ.2⟩
set_option maxRecDepth 100000 in
set_option maxHeartbeats 2000000 in
theorem digits_any (h : Ps w base g s st) (hb : base ≤ w.heap.size) (hl : s.length ≤ 8192) : Calls Tryd.prog 87 #[.pointer (some ⟨g, 0, none⟩)] w fun x w' => x = .returned (.tuple #[]) ∧ Ps w' base g s (st.digits s) ∧ Turn g w w' := by
  have H := Lib.hid h
  have HB := Lib.hid hb
  have hrd := run_drop digitB (s.drop st.at_)
  have hat := h.len
  have HAT := Lib.hid hat
  rw [List.length_drop] at hrd
  obtain ⟨qb, hqb⟩ : ∃ qb : ByteArray, qb = ⟨(s.drop st.at_).toArray⟩ := ⟨_, rfl⟩
  obtain ⟨rb, hrb⟩ : ∃ rb : ByteArray, rb = ⟨((s.drop st.at_).dropWhile digitB).toArray⟩ := ⟨_, rfl⟩
  have hsz : qb.size = s.length - st.at_ := by rw [hqb]; simp [ByteArray.size]
  have hrz : rb.size = ((s.drop st.at_).dropWhile digitB).length := by rw [hrb]; simp [ByteArray.size]
  have QB := Lib.hid hqb
  have RB := Lib.hid hrb
  obtain ⟨n, hn⟩ : ∃ n, n = runB digitB (s.drop st.at_) := ⟨_, rfl⟩
  rw [← hn] at hrd
  have HK := Lib.hid (show (qb.size : Int) = (rb.size : Int) + (n : Int) by omega)
  have hq2 : (qb.size : Int) ≤ 8192 := by omega
  have h1 : (rb.size : Int) ≤ (qb.size : Int) := by omega
  have hat8 : (st.at_ : Int) ≤ 8192 := by omega
  have hK2 := Lib.hid (show st.at_ + n ≤ s.length by omega)
  have HN := Lib.hid hn
  have HL := Lib.hid hl
  have hD : st.digits s = if n = 0 then st.fail st.at_ 2 else st.to (st.at_ + n) := by unfold PS.digits; rw [hn]
  have HD := Lib.hid hD
  clear hqb hrb hsz hrz hrd hat h hl hb hn hD
  go_enter Tryd.func87, Tryd.ntmps87
  by_cases hn0 : n = 0
  · have hz : (qb.size : Int) - (rb.size : Int) = 0 := by have := HK.out; omega
    have hzz : (((qb.size : Int) - (rb.size : Int)) == 0) = true := by rw [hz]; rfl
    have HZ := Lib.hid hn0
    have HZ2 := Lib.hid hz
    clear hn0 hz
    go_wp2_with (first
      | (go_at_call 57; have hx_ := B2; go_must (have tl := rest_any (H.out.below B2.out); rw [← QB.out] at tl; refine tl.mono ?_; clear tl; rintro e w3 ⟨rfl, n3, hw3⟩; have B3 := Lib.hid (B2.out.trans (below_drewN' (B := w.heap.size) hw3)); clear hw3))
      | (go_at_call 57; go_must (have tl := rest_any H.out; rw [← QB.out] at tl; refine tl.mono ?_; clear tl; rintro e w2 ⟨rfl, n2, hw2⟩; have B2 := Lib.hid (below_drewN' (B := w.heap.size) hw2); clear hw2))
      | (go_at_call 56; go_must (have tl := trimLeft_any (s.drop st.at_) [48, 49, 50, 51, 52, 53, 54, 55, 56, 57] w3 (by decide) (by decide); rw [digit_set, ← QB.out, ← RB.out] at tl; refine tl.mono ?_; clear tl; rintro e w4 ⟨rfl, hb4⟩; have B4 := Lib.hid (B3.out.trans (hb4.mono B3.out.size)); have HP4 := H.out.below B4.out; obtain ⟨c0, c1, c2⟩ := HP4.at_; have fz := HP4.unfrozen; clear hb4 HP4))
      | (go_at_call 33; go_must (refine (fail_any (H.out.below B4.out) (Nat.le_trans HB.out B4.out.size) _ _).mono ?_; rintro e w5 ⟨rfl, hp5, ht5⟩; have H5 := Lib.hid (And.intro hp5 ht5); obtain ⟨d0, d1, d2⟩ := hp5.at_; have hfz := hp5.unfrozen; have HP := Lib.hid (hp5.put1 (k := st.at_) (by rw [← PS.fail_at st st.at_ 2]; exact hp5.len)); rw [PS.fail_at] at d1; clear hp5 ht5)))
    rw [HZ2.out, Int.add_zero]
    first
      | go_end0
      | (refine bodyPost_ret (results_none rfl _ _ _) rfl ?_)
    have hPQ := HP.out
    have e1 : ({ st.fail st.at_ 2 with at_ := st.at_ } : PS) = st.digits s := by
      rw [HD.out, if_pos HZ.out]
      have e0 := PS.fail_at st st.at_ 2
      cases hq : st.fail st.at_ 2
      rw [hq] at e0
      simp only at e0
      rw [e0]
    rw [e1] at hPQ
    exact ⟨rfl, hPQ.1, ((Turn.of_below B4.out).trans H5.out.2).trans hPQ.2⟩
  · have hz : (qb.size : Int) - (rb.size : Int) = (n : Int) := by have := HK.out; omega
    have hzz : (((qb.size : Int) - (rb.size : Int)) == 0) = false := by rw [hz]; simp; omega
    have HZ := Lib.hid hn0
    have HZ2 := Lib.hid hz
    clear hn0 hz
    go_wp2_with (first
      | (go_at_call 57; have hx_ := B2; go_must (have tl := rest_any (H.out.below B2.out); rw [← QB.out] at tl; refine tl.mono ?_; clear tl; rintro e w3 ⟨rfl, n3, hw3⟩; have B3 := Lib.hid (B2.out.trans (below_drewN' (B := w.heap.size) hw3)); clear hw3))
      | (go_at_call 57; go_must (have tl := rest_any H.out; rw [← QB.out] at tl; refine tl.mono ?_; clear tl; rintro e w2 ⟨rfl, n2, hw2⟩; have B2 := Lib.hid (below_drewN' (B := w.heap.size) hw2); clear hw2))
      | (go_at_call 56; go_must (have tl := trimLeft_any (s.drop st.at_) [48, 49, 50, 51, 52, 53, 54, 55, 56, 57] w3 (by decide) (by decide); rw [digit_set, ← QB.out, ← RB.out] at tl; refine tl.mono ?_; clear tl; rintro e w4 ⟨rfl, hb4⟩; have B4 := Lib.hid (B3.out.trans (hb4.mono B3.out.size)); have HP4 := H.out.below B4.out; obtain ⟨c0, c1, c2⟩ := HP4.at_; have fz := HP4.unfrozen; clear hb4 HP4)))
    have hPQ := (H.out.below B4.out).put1 hK2.out
    have e1 : ({ st with at_ := st.at_ + n } : PS) = st.digits s := by
      rw [HD.out, if_neg HZ.out]; rfl
    have e2 : (st.at_ : Int) + ((qb.size : Int) - (rb.size : Int)) = ((st.at_ + n : Nat) : Int) := by rw [HZ2.out]; omega
    rw [e2]
    first
      | go_end0
      | (refine bodyPost_ret (results_none rfl _ _ _) rfl ?_)
    rw [e1] at hPQ
    exact ⟨rfl, hPQ.1, (Turn.of_below B4.out).trans hPQ.2⟩
end
end Go.Proofs.YtkbopeoaoakfnaaDoor
