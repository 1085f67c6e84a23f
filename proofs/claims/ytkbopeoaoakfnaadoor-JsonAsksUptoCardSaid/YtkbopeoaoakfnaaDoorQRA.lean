/- The texts Reg10 RR1 RR2 RR3 of this work, merged by wip/merge.py. No conditions. -/
import Derived.Test.YtkbopeoaoakfnaaDoorQR
import Derived.Test.YtkbopeoaoakfnaaDoorQJB
import Derived.Test.YtkbopeoaoakfnaaDoorQKA
namespace Go.Proofs.YtkbopeoaoakfnaaDoor
section
variable {P : Program} {ops : Array Oper} {C : World → Prop} {Q : Act → World → Prop} {zs : List Nat}
/-- A bunch of operations in any order. J d: the invariant when those of d have come up. -/
theorem AnyCZ.bunch {f : Nat} {L0 : Array Bool} {a : Act} {w : World} (T : List Nat) (J : (Nat → Bool) → Act → World → Prop)
    (hnd : T.Nodup) (hb : (T.all fun i => decide (i < L0.size) && !L0.getD i true) = true) (hok : bunchB ops T T L0 = true)
    (hJC : ∀ d a w, J d a w → C w)
    (hstep : ∀ i ∈ T, ∀ oi, ops[i]? = some oi → ∀ d a w, J d a w → d i = false → (∀ j ∈ T, (oi.after.any fun e => Region.binds .any e && e.on == j) = true → d j = true) → wpList P ops (OnK (fun a' w' => a'.defers = a.defers ∧ J (fun j => j == i || d j) a' w')) [oi] a w)
    (hend : ∀ d a w, (∀ i ∈ T, d i = true) → J d a w → AnyCZ P ops zs C Q f (setD (fun _ => true) T L0) a w)
    (hJ : J (fun _ => false) a w) : AnyCZ P ops zs C Q (f + T.length) L0 a w := by
  have hbT : ∀ i ∈ T, i < L0.size ∧ L0.getD i false = false := fun i hi => by
    have h1 := List.all_eq_true.1 hb i hi
    simp only [Bool.and_eq_true, decide_eq_true_eq, Bool.not_eq_true'] at h1
    refine ⟨h1.1, ?_⟩
    have h2 := h1.2
    rw [Array.getD_eq_getD_getElem?] at h2 ⊢
    simpa [h1.1] using h2
  have key : ∀ (k : Nat) (d : Nat → Bool) (a : Act) (w : World), (T.filter fun i => !d i).length = k → J d a w → AnyCZ P ops zs C Q (f + k) (setD d T L0) a w := by
    intro k
    induction k with
    | zero =>
      intro d a w hk hJ
      have hall : ∀ i ∈ T, d i = true := fun i hi => by
        cases hd : d i with
        | true => rfl
        | false =>
          have : i ∈ T.filter fun i => !d i := List.mem_filter.2 ⟨hi, by simp [hd]⟩
          rw [List.eq_nil_of_length_eq_zero hk] at this
          cases this
      have he : setD d T L0 = setD (fun _ => true) T L0 := getD_ext (by rw [setD_size, setD_size]) fun x hx => by
        rw [setD_size] at hx
        rw [setD_at _ _ _ _ hx, setD_at _ _ _ _ hx]
        cases hc : T.contains x with
        | false => simp
        | true => rw [hall x (by simpa using hc)]
      rw [he]
      exact hend d a w hall hJ
    | succ k ih =>
      intro d a w hk hJ hD
      refine ⟨hJC d a w hJ, ?_⟩
      have hg := bunchB_at d T L0 hok
      have hex : ∃ i ∈ T, d i = false := by
        have hpos : 0 < (T.filter fun i => !d i).length := by omega
        obtain ⟨i, hi⟩ := List.exists_mem_of_length_pos hpos
        rw [List.mem_filter] at hi
        exact ⟨i, hi.1, by simpa using hi.2⟩
      have hnot : (T.all fun i => (setD d T L0).getD i false) = false := by
        obtain ⟨i, hi, hd⟩ := hex
        rw [List.all_eq_false]
        refine ⟨i, hi, ?_⟩
        rw [setD_at _ _ _ _ (hbT i hi).1, hd, (hbT i hi).2]
        simp
      unfold goodL at hg
      rw [closed_of hD, hnot, Bool.not_true, Bool.false_or, Bool.false_or, Bool.and_eq_true] at hg
      obtain ⟨hg1, hg2⟩ := hg
      have hne : Region.ready .any ops (setD d T L0) ≠ [] := fun e => by rw [e] at hg2; simp at hg2
      show anyZ P .any ops zs C Q (f + k + 1) (setD d T L0) a w
      refine ⟨fun h0 => absurd h0 hne, fun j hj => ?_⟩
      have hjT : j ∈ T := by simpa using List.all_eq_true.1 hg1 j hj
      obtain ⟨hun, oj, hoj, hdeps⟩ := mem_ready.1 hj
      have hdj : d j = false := by
        have h1 := setD_at d T L0 j (hbT j hjT).1
        have h2 : (setD d T L0).getD j false = false := by
          rw [Array.getD_eq_getD_getElem?] at hun ⊢
          have hlt : j < (setD d T L0).size := by rw [setD_size]; exact (hbT j hjT).1
          simpa [hlt] using hun
        rw [h2] at h1
        cases hd : d j with
        | false => rfl
        | true => rw [hd] at h1; simp [hjT] at h1
      have hset : (setD d T L0).setIfInBounds j true = setD (fun x => x == j || d x) T L0 := getD_ext (by simp [setD_size]) fun x hx => by
        have hx' : x < L0.size := by simpa [setD_size] using hx
        rw [setD_at _ _ _ _ hx']
        by_cases hjx : j = x
        · subst hjx
          have : T.contains j = true := by simpa using hjT
          rw [this]
          simp [Array.getD_eq_getD_getElem?, setD_size, hx']
        · rw [getD_set_ne false hjx, setD_at _ _ _ _ hx']
          have : (x == j) = false := by simp; exact fun e => hjx e.symm
          rw [this, Bool.false_or]
      have hk' : (T.filter fun i => !(i == j || d i)).length = k := by have := count_step hnd hjT hdj; omega
      have hw := hstep j hjT oj hoj d a w hJ hdj (fun i hi hany => by
        rw [Array.any_eq_true'] at hany
        obtain ⟨e, he, hb2⟩ := hany
        simp only [Bool.and_eq_true, beq_iff_eq] at hb2
        have h1 := hdeps e he hb2.1
        rw [hb2.2, setD_at _ _ _ _ (hbT i hi).1, (hbT i hi).2, Bool.or_false, Bool.and_eq_true] at h1
        exact h1.2)
      have h1 := okOp_of_wp (fun a' w' hk => hk.1) hw
      unfold okStep
      simp only [hoj]
      have hD' := hD.step hj
      rw [hset] at hD' ⊢
      split
      · rename_i hw1
        rw [if_pos hw1] at h1
        exact okOp_mono (fun v w' ⟨_, h3⟩ => ⟨fun _ => (ih _ _ _ hk' h3 hD').1, (ih _ _ _ hk' h3 hD').2⟩) h1
      · rename_i hw1
        rw [if_neg hw1] at h1
        exact ⟨fun _ => (ih _ _ _ hk' h1.2 hD').1, (ih _ _ _ hk' h1.2 hD').2⟩
  have h0 : setD (fun _ => false) T L0 = L0 := getD_ext (setD_size _ _ _) fun x hx => by
    rw [setD_size] at hx
    rw [setD_at _ _ _ _ hx]
    simp
  have := key T.length (fun _ => false) a w (by simp) hJ
  rw [h0] at this
  exact this
end
end Go.Proofs.YtkbopeoaoakfnaaDoor

namespace Go.Proofs.YtkbopeoaoakfnaaDoor
open Go.RowKit
/-- The reader at g has come from w0 to w. -/
structure RA (w0 : World) (g : Nat) (sb : ByteArray) (w : World) (k : Nat) (d : Int) (lg : Bool) : Prop where
  obj : w.heap[g]? = some (.cells #[.string sb, .int .i64 (k : Int), .int .i64 d, .bool lg] 88 (0, 0))
  turn : Turn g w0 w
  lt : g < w0.heap.size
  len8 : sb.size ≤ 8192
  le : k ≤ sb.size
section
variable {w0 w w' : World} {g : Nat} {sb : ByteArray} {k : Nat} {d : Int} {lg : Bool} {s : List UInt8}
theorem RA.cells (h : RA w0 g sb w k d lg) : w.cell? ⟨g, 0, none⟩ = some (.string sb) ∧ w.cell? ⟨g, 1, none⟩ = some (.int .i64 (k : Int)) ∧ w.cell? ⟨g, 2, none⟩ = some (.int .i64 d) ∧ w.cell? ⟨g, 3, none⟩ = some (.bool lg) ∧ (∀ i, w.frozen? ⟨g, i, none⟩ = false) :=
  ⟨cell_of_row _ _ _ _ _ _ h.obj, cell_of_row _ _ _ _ _ _ h.obj, cell_of_row _ _ _ _ _ _ h.obj, cell_of_row _ _ _ _ _ _ h.obj, fun i => frozen_row h.obj i⟩
theorem RA.below (h : RA w0 g sb w k d lg) (hb : Below w.heap.size w w') : RA w0 g sb w' k d lg := ⟨heap_below h.obj hb, h.turn.trans (.of_below hb), h.lt, h.len8, h.le⟩
theorem RA.drewN (h : RA w0 g sb w k d lg) (n : Nat) : RA w0 g sb (w.drewN n) k d lg := ⟨h.obj, h.turn.drewN n, h.lt, h.len8, h.le⟩
theorem RA.put (h : RA w0 g sb w k d lg) {k' : Nat} (hk : k' ≤ sb.size) : RA w0 g sb (w.setCell ⟨g, 1, none⟩ (.int .i64 (k' : Int))) k' d lg := ⟨heap_setCell_same _ _ _ _ _ _ h.obj, h.turn.setCell _, h.lt, h.len8, hk⟩
theorem RA.putD (h : RA w0 g sb w k d lg) (d' : Int) : RA w0 g sb (w.setCell ⟨g, 2, none⟩ (.int .i64 d')) k d' lg := ⟨heap_setCell_same _ _ _ _ _ _ h.obj, h.turn.setCell _, h.lt, h.len8, h.le⟩
theorem RA.putL (h : RA w0 g sb w k d lg) (l' : Bool) : RA w0 g sb (w.setCell ⟨g, 3, none⟩ (.bool l')) k d l' := ⟨heap_setCell_same _ _ _ _ _ _ h.obj, h.turn.setCell _, h.lt, h.len8, h.le⟩
theorem RA.self (h : RA w0 g sb w k d lg) : RA w g sb w k d lg := ⟨h.obj, .refl _ _, Nat.lt_of_lt_of_le h.lt h.turn.size, h.len8, h.le⟩
theorem RA.lift (h : RA w0 g sb w k d lg) {k' : Nat} {d' : Int} {l' : Bool} (h2 : RA w g sb w' k' d' l') : RA w0 g sb w' k' d' l' := ⟨h2.obj, h.turn.trans h2.turn, h.lt, h.len8, h2.le⟩
theorem RA.kI (h : RA w0 g sb w k d lg) : (0 : Int) ≤ (k : Int) ∧ (k : Int) ≤ 8192 ∧ (k : Int) ≤ (sb.size : Int) := by have := h.le; have := h.len8; omega
set_option maxRecDepth 100000 in
set_option maxHeartbeats 400000 in
theorem digit_any (c : UInt8) (w : World) : Calls Tryd.prog 49 #[.int .u8 (c.toNat : Int)] w fun e w' => e = .returned (.bool (digitB c)) ∧ w' = w := by
  by_cases h1 : 48 ≤ c.toNat
  · have d1 : decide ((48 : Int) ≤ (c.toNat : Int)) = true := by simp; omega
    by_cases h2 : c.toNat ≤ 57
    · have d2 : decide ((c.toNat : Int) ≤ 57) = true := by simp; omega
      have hr : digitB c = true := by unfold digitB; simp [h1, h2]
      have HR := Lib.hid hr
      clear hr
      go_enter Tryd.func49, Tryd.ntmps49
      go_wp2
      go_ret
      exact ⟨by rw [HR.out]; rfl, rfl⟩
    · have d2 : decide ((c.toNat : Int) ≤ 57) = false := by simp; omega
      have hr : digitB c = false := by unfold digitB; simp [h2]
      have HR := Lib.hid hr
      clear hr
      go_enter Tryd.func49, Tryd.ntmps49
      go_wp2
      go_ret
      exact ⟨by rw [HR.out]; rfl, rfl⟩
  · have d1 : decide ((48 : Int) ≤ (c.toNat : Int)) = false := by simp; omega
    have hr : digitB c = false := by unfold digitB; simp [h1]
    have HR := Lib.hid hr
    clear hr
    go_enter Tryd.func49, Tryd.ntmps49
    go_wp2
    go_ret
    exact ⟨by rw [HR.out]; rfl, rfl⟩
set_option maxRecDepth 100000 in
set_option maxHeartbeats 400000 in
theorem here_at (h : RA w0 g sb w k d lg) (hs : sb = ⟨s.toArray⟩) : Calls Tryd.prog 63 #[.pointer (some ⟨g, 0, none⟩)] w fun e w' => e = .returned (.int .u8 ((s.getD k 0).toNat : Int)) ∧ RA w0 g sb w' k d lg := by
  obtain ⟨c0, c1, c2, c3, fz⟩ := h.cells
  obtain ⟨k0, k1, k2⟩ := h.kI
  have hsz : sb.size = s.length := by rw [hs]; simp [ByteArray.size]
  have H := Lib.hid h
  by_cases hlt : k < sb.size
  · have hd : decide (k < sb.size) = true := by simp; exact hlt
    have hd2 : decide (sb.size ≤ k) = false := by simp; omega
    have hlt' : (k : Int) < (sb.size : Int) := by omega
    have hg : ∀ h0 : k < sb.size, sb[k]'h0 = s.getD k 0 := by
      intro h0
      have hi : k < s.length := by omega
      subst hs
      simp [List.getD, List.getElem?_eq_getElem hi]
      rfl
    clear hs h hsz
    go_enter Tryd.func63, Tryd.ntmps63
    go_wp2
    go_quiet (fail)
    go_wp2
    go_quiet (fail)
    go_wp2
    go_ret
    exact ⟨by first | rfl | simp [hg], by first | exact (H.out.drewN _).drewN _ | exact H.out.drewN _⟩
  · have hd : decide (k < sb.size) = false := by simp; omega
    have hd2 : decide (sb.size ≤ k) = true := by simp; omega
    have hlt' : (sb.size : Int) ≤ (k : Int) := by omega
    have hr : s.getD k 0 = 0 := by simp [List.getD, List.getElem?_eq_none (show s.length ≤ k by omega)]
    rw [hr]
    clear hs h hsz hr
    go_enter Tryd.func63, Tryd.ntmps63
    go_wp2
    go_quiet (fail)
    go_wp2
    go_ret
    exact ⟨by first | rfl | simp, by first | exact (H.out.drewN _).drewN _ | exact H.out.drewN _⟩
end
end Go.Proofs.YtkbopeoaoakfnaaDoor

namespace Go.Proofs.YtkbopeoaoakfnaaDoor
open Go.RowKit
section
variable {w0 w w' : World} {g : Nat} {sb : ByteArray} {k : Nat} {d : Int} {lg : Bool} {s : List UInt8}
theorem here_lit (c : UInt8) {n : Int} (hn : (c.toNat : Int) = n) (hc : s.getD k 0 = c) (h : RA w0 g sb w k d lg) (hs : sb = ⟨s.toArray⟩) : Calls Tryd.prog 63 #[.pointer (some ⟨g, 0, none⟩)] w fun e w' => e = .returned (.int .u8 n) ∧ RA w0 g sb w' k d lg := by
  have := here_at h hs
  rw [hc, hn] at this
  exact this
/-- Where the reader stands. -/
def rdAt (w : World) (g : Nat) : Nat := match w.cell? ⟨g, 1, none⟩ with | some (.int _ z) => z.toNat | _ => 0
theorem RA.rd (h : RA w0 g sb w k d lg) : rdAt w g = k := by unfold rdAt; rw [h.cells.2.1]; simp
theorem run_yes {p : UInt8 → Bool} {s : List UInt8} {k : Nat} (hk : k < s.length) (h : p (s.getD k 0) = true) : runB p (s.drop k) = 1 + runB p (s.drop (k + 1)) := by
  unfold runB
  rw [List.drop_eq_getElem_cons hk, List.takeWhile_cons]
  have : s.getD k 0 = s[k] := by simp [List.getD, List.getElem?_eq_getElem hk]
  rw [this] at h
  rw [if_pos h, List.length_cons]
  omega
theorem run_no {p : UInt8 → Bool} {s : List UInt8} {k : Nat} (h : k < s.length → p (s.getD k 0) = false) : runB p (s.drop k) = 0 := by
  unfold runB
  rcases Nat.lt_or_ge k s.length with hk | hk
  · rw [List.drop_eq_getElem_cons hk, List.takeWhile_cons]
    have e : s.getD k 0 = s[k] := by simp [List.getD, List.getElem?_eq_getElem hk]
    have h2 := h hk
    rw [e] at h2
    rw [if_neg (by simp [h2])]
    rfl
  · rw [List.drop_eq_nil_of_le hk]; rfl
theorem getD_lt {s : List UInt8} {k : Nat} (h : s.getD k 0 ≠ 0) : k < s.length := by
  rcases Nat.lt_or_ge k s.length with hk | hk
  · exact hk
  · exact absurd (by simp [List.getD, List.getElem?_eq_none hk]) h
theorem RA.next (h : RA w0 g sb w k d lg) (hk : k < sb.size) : RA w0 g sb (w.setCell ⟨g, 1, none⟩ (.int .i64 ((k : Int) + 1))) (k + 1) d lg := by
  have := h.put (k' := k + 1) (by omega)
  rw [show ((k + 1 : Nat) : Int) = (k : Int) + 1 by omega] at this
  exact this
set_option maxRecDepth 100000 in
set_option maxHeartbeats 1000000 in
theorem rblanks_at (h : RA w0 g sb w k d lg) (hs : sb = ⟨s.toArray⟩) : Calls Tryd.prog 34 #[.pointer (some ⟨g, 0, none⟩)] w fun e w' => e = .returned (.tuple #[]) ∧ RA w0 g sb w' (k + runB blankB (s.drop k)) d lg := by
  have HS := Lib.hid hs
  have HSZ : Hid (sb.size = s.length) := by show _ = _; rw [hs]; simp [ByteArray.size]
  clear hs
  go_enter Tryd.func34, Tryd.ntmps34
  go_wp2_with fail
  go_loopw [] (fun wr => ∃ k' : Nat, RA w0 g sb wr k' d lg ∧ Hid (k' + runB blankB (s.drop k') = k + runB blankB (s.drop k))) (fun wr => s.length - rdAt wr g)
  case atStart => exact ⟨k, h, rfl⟩
  case round =>
    obtain ⟨k', hR, HRUN⟩ := hrel
    obtain ⟨c0, c1, c2, c3, fz⟩ := hR.cells
    obtain ⟨k0, k1, k2⟩ := hR.kI
    clear h
    by_cases h32 : s.getD k' 0 = 32
    · have HC := Lib.hid h32
      have hlt : k' < s.length := getD_lt (by rw [h32]; decide)
      have HLT := Lib.hid (show k' < sb.size by rw [HSZ.out]; exact hlt)
      have HST := Lib.hid (run_yes (p := blankB) hlt (by rw [h32]; rfl))
      clear h32 hlt
      go_wp2_with (go_at_call 63; go_must (refine (here_lit 32 (by rfl) HC.out (by assumption) HS.out).mono ?_; rintro e w1 ⟨rfl, h1⟩; obtain ⟨c0, c1, c2, c3, fz⟩ := h1.cells))
      go_roundw
      case rel => exact ⟨k' + 1, (RA.next (by assumption) HLT.out), by show _ = _; have h1_ := HRUN.out; have h2_ := HST.out; omega⟩
      case measure =>
        have hx : RA w0 g sb (w1.setCell ⟨g, 1, none⟩ (.int .i64 ((k' : Int) + 1))) (k' + 1) d lg := RA.next (by assumption) HLT.out
        rw [hx.rd, hR.rd]
        have := HLT.out; have := HSZ.out; omega
    by_cases h9 : s.getD k' 0 = 9
    · have HC := Lib.hid h9
      have hlt : k' < s.length := getD_lt (by rw [h9]; decide)
      have HLT := Lib.hid (show k' < sb.size by rw [HSZ.out]; exact hlt)
      have HST := Lib.hid (run_yes (p := blankB) hlt (by rw [h9]; rfl))
      clear h9 hlt
      go_wp2_with (go_at_call 63; go_must (refine (here_lit 9 (by rfl) HC.out (by assumption) HS.out).mono ?_; rintro e w1 ⟨rfl, h1⟩; obtain ⟨c0, c1, c2, c3, fz⟩ := h1.cells))
      go_roundw
      case rel => exact ⟨k' + 1, (RA.next (by assumption) HLT.out), by show _ = _; have h1_ := HRUN.out; have h2_ := HST.out; omega⟩
      case measure =>
        have hx : RA w0 g sb (w1.setCell ⟨g, 1, none⟩ (.int .i64 ((k' : Int) + 1))) (k' + 1) d lg := RA.next (by assumption) HLT.out
        rw [hx.rd, hR.rd]
        have := HLT.out; have := HSZ.out; omega
    by_cases h10 : s.getD k' 0 = 10
    · have HC := Lib.hid h10
      have hlt : k' < s.length := getD_lt (by rw [h10]; decide)
      have HLT := Lib.hid (show k' < sb.size by rw [HSZ.out]; exact hlt)
      have HST := Lib.hid (run_yes (p := blankB) hlt (by rw [h10]; rfl))
      clear h10 hlt
      go_wp2_with (go_at_call 63; go_must (refine (here_lit 10 (by rfl) HC.out (by assumption) HS.out).mono ?_; rintro e w1 ⟨rfl, h1⟩; obtain ⟨c0, c1, c2, c3, fz⟩ := h1.cells))
      go_roundw
      case rel => exact ⟨k' + 1, (RA.next (by assumption) HLT.out), by show _ = _; have h1_ := HRUN.out; have h2_ := HST.out; omega⟩
      case measure =>
        have hx : RA w0 g sb (w1.setCell ⟨g, 1, none⟩ (.int .i64 ((k' : Int) + 1))) (k' + 1) d lg := RA.next (by assumption) HLT.out
        rw [hx.rd, hR.rd]
        have := HLT.out; have := HSZ.out; omega
    by_cases h13 : s.getD k' 0 = 13
    · have HC := Lib.hid h13
      have hlt : k' < s.length := getD_lt (by rw [h13]; decide)
      have HLT := Lib.hid (show k' < sb.size by rw [HSZ.out]; exact hlt)
      have HST := Lib.hid (run_yes (p := blankB) hlt (by rw [h13]; rfl))
      clear h13 hlt
      go_wp2_with (go_at_call 63; go_must (refine (here_lit 13 (by rfl) HC.out (by assumption) HS.out).mono ?_; rintro e w1 ⟨rfl, h1⟩; obtain ⟨c0, c1, c2, c3, fz⟩ := h1.cells))
      go_roundw
      case rel => exact ⟨k' + 1, (RA.next (by assumption) HLT.out), by show _ = _; have h1_ := HRUN.out; have h2_ := HST.out; omega⟩
      case measure =>
        have hx : RA w0 g sb (w1.setCell ⟨g, 1, none⟩ (.int .i64 ((k' : Int) + 1))) (k' + 1) d lg := RA.next (by assumption) HLT.out
        rw [hx.rd, hR.rd]
        have := HLT.out; have := HSZ.out; omega
    have HN : Hid (s.getD k' 0 ≠ 32 ∧ s.getD k' 0 ≠ 9 ∧ s.getD k' 0 ≠ 10 ∧ s.getD k' 0 ≠ 13) := ⟨h32, h9, h10, h13⟩
    obtain ⟨c, hc⟩ : ∃ c : UInt8, c = s.getD k' 0 := ⟨_, rfl⟩
    rw [← hc] at h32 h9 h10 h13
    have n32 : c.toNat ≠ 32 := fun e => h32 (UInt8.toNat_inj.1 (by simpa using e))
    have n9 : c.toNat ≠ 9 := fun e => h9 (UInt8.toNat_inj.1 (by simpa using e))
    have n10 : c.toNat ≠ 10 := fun e => h10 (UInt8.toNat_inj.1 (by simpa using e))
    have n13 : c.toNat ≠ 13 := fun e => h13 (UInt8.toNat_inj.1 (by simpa using e))
    have q32 : ((c.toNat : Int) == 32) = false := by simp; omega
    have q9 : ((c.toNat : Int) == 9) = false := by simp; omega
    have q10 : ((c.toNat : Int) == 10) = false := by simp; omega
    have q13 : ((c.toNat : Int) == 13) = false := by simp; omega
    have HNB : Hid (blankB c = false) := by show _ = _; unfold blankB; simp [h32, h9, h10, h13]
    have HC := Lib.hid hc.symm
    clear hc h32 h9 h10 h13 n32 n9 n10 n13
    go_wp2_with (go_at_call 63; go_must (refine (here_lit c (by rfl) HC.out (by assumption) HS.out).mono ?_; rintro e w1 ⟨rfl, h1⟩; obtain ⟨c0, c1, c2, c3, fz⟩ := h1.cells))
    first
      | go_end0
      | (refine bodyPost_ret (results_none rfl _ _ _) rfl ?_)
    have e0 : runB blankB (s.drop k') = 0 := run_no (fun _ => by rw [HC.out]; exact HNB.out)
    have e1 := HRUN.out
    rw [e0, Nat.add_zero] at e1
    rw [← e1]
    exact ⟨rfl, by assumption⟩
end
end Go.Proofs.YtkbopeoaoakfnaaDoor

namespace Go.Proofs.YtkbopeoaoakfnaaDoor
open Go.RowKit
/-- How the reader and the parser's state agree. -/
def RPost (w0 : World) (g : Nat) (sb : ByteArray) (st' : PS) (ok : Bool) (w' : World) : Prop :=
  (st'.fault = none ∧ ok = true ∧ RA w0 g sb w' st'.at_ st'.depth false) ∨ (∃ (k : Nat) (e d' : Int), st'.fault = some ((k : Int), e) ∧ (e = 2 ∨ e = 6) ∧ ok = false ∧ RA w0 g sb w' k d' (e == 6))
section
variable {w0 w w' : World} {g : Nat} {sb : ByteArray} {k : Nat} {d : Int} {lg : Bool} {s : List UInt8} {st : PS}
theorem RPost.yes {st' : PS} (hf : st'.fault = none) (h : RA w0 g sb w' st'.at_ st'.depth false) : RPost w0 g sb st' true w' := .inl ⟨hf, rfl, h⟩
theorem RPost.no {st' : PS} {k : Nat} {d' : Int} (hf : st'.fault = some ((k : Int), 2)) (h : RA w0 g sb w' k d' false) : RPost w0 g sb st' false w' := .inr ⟨k, 2, d', hf, .inl rfl, rfl, h⟩
theorem RPost.lift {st' : PS} {ok : Bool} (h : RA w0 g sb w k d lg) (h2 : RPost w g sb st' ok w') : RPost w0 g sb st' ok w' := by
  rcases h2 with ⟨a, b, c⟩ | ⟨k', e, d', a, b, c, x⟩
  · exact .inl ⟨a, b, h.lift c⟩
  · exact .inr ⟨k', e, d', a, b, c, h.lift x⟩
set_option maxRecDepth 100000 in
set_option maxHeartbeats 1000000 in
theorem rdigits_at (h : RA w0 g sb w k d lg) (hs : sb = ⟨s.toArray⟩) : Calls Tryd.prog 90 #[.pointer (some ⟨g, 0, none⟩)] w fun e w' => e = .returned (.bool (decide (runB digitB (s.drop k) ≠ 0))) ∧ RA w0 g sb w' (k + runB digitB (s.drop k)) d lg := by
  have HS := Lib.hid hs
  have HSZ : Hid (sb.size = s.length) := by show _ = _; rw [hs]; simp [ByteArray.size]
  clear hs
  obtain ⟨c, hc⟩ : ∃ c : UInt8, c = s.getD k 0 := ⟨_, rfl⟩
  have HC := Lib.hid hc.symm
  by_cases hdg : digitB c = true
  · have hlt : k < s.length := getD_lt (by rw [← hc]; intro e; rw [e] at hdg; exact absurd hdg (by decide))
    have HRY := Lib.hid (run_yes (p := digitB) hlt (by rw [← hc]; exact hdg))
    clear hlt hc
    go_enter Tryd.func90, Tryd.ntmps90
    go_wp2_with (first
      | (go_at_call 63; go_must (refine (here_lit c (by rfl) HC.out (by assumption) HS.out).mono ?_; rintro e w1 ⟨rfl, h1⟩))
      | (go_at_call 49; go_must (refine (digit_any c _).mono ?_; rintro e w1 ⟨rfl, hw1⟩; have hw1 := hw1.symm; subst hw1; rw [hdg])))
    go_loopw [] (fun wr => ∃ k' : Nat, RA w0 g sb wr k' d lg ∧ Hid (k' + runB digitB (s.drop k') = k + runB digitB (s.drop k))) (fun wr => s.length - rdAt wr g)
    case atStart => exact ⟨k, by assumption, rfl⟩
    case round =>
      obtain ⟨k', hR, HRUN⟩ := hrel
      obtain ⟨c0, c1, c2, c3, fz⟩ := hR.cells
      obtain ⟨k0, k1, k2⟩ := hR.kI
      clear h h1
      obtain ⟨b, hb⟩ : ∃ b : UInt8, b = s.getD k' 0 := ⟨_, rfl⟩
      have HB := Lib.hid hb.symm
      by_cases hbd : digitB b = true
      · have hlt2 : k' < s.length := getD_lt (by rw [← hb]; intro e; rw [e] at hbd; exact absurd hbd (by decide))
        have HLT := Lib.hid (show k' < sb.size by rw [HSZ.out]; exact hlt2)
        have HST := Lib.hid (run_yes (p := digitB) hlt2 (by rw [← hb]; exact hbd))
        clear hlt2 hb
        go_wp2_with (first
          | (go_at_call 63; go_must (refine (here_lit b (by rfl) HB.out (by assumption) HS.out).mono ?_; rintro e w1 ⟨rfl, h1⟩; obtain ⟨c0, c1, c2, c3, fz⟩ := h1.cells))
          | (go_at_call 49; go_must (refine (digit_any b _).mono ?_; rintro e w2 ⟨rfl, hw2⟩; have hw2 := hw2.symm; subst hw2; rw [hbd])))
        go_roundw
        case rel => exact ⟨k' + 1, (RA.next (by assumption) HLT.out), by show _ = _; have h1_ := HRUN.out; have h2_ := HST.out; omega⟩
        case measure =>
          have hx : RA w0 g sb (w1.setCell ⟨g, 1, none⟩ (.int .i64 ((k' : Int) + 1))) (k' + 1) d lg := RA.next (by assumption) HLT.out
          rw [hx.rd, hR.rd]
          have := HLT.out; have := HSZ.out; omega
      · have hbf : digitB b = false := by simpa using hbd
        have e0 : runB digitB (s.drop k') = 0 := run_no (fun _ => by rw [← hb]; exact hbf)
        have E0 := Lib.hid e0
        clear hb hbd e0
        go_wp2_with (first
          | (go_at_call 63; go_must (refine (here_lit b (by rfl) HB.out (by assumption) HS.out).mono ?_; rintro e w1 ⟨rfl, h1⟩; obtain ⟨c0, c1, c2, c3, fz⟩ := h1.cells))
          | (go_at_call 49; go_must (refine (digit_any b _).mono ?_; rintro e w2 ⟨rfl, hw2⟩; have hw2 := hw2.symm; subst hw2; rw [hbf])))
        go_ret
        have e1 := HRUN.out
        rw [E0.out, Nat.add_zero] at e1
        rw [← e1]
        refine ⟨?_, by assumption⟩
        rw [HRY.out]
        simp
        try rfl
  · have hdf : digitB c = false := by simpa using hdg
    have e0 : runB digitB (s.drop k) = 0 := run_no (fun _ => by rw [← hc]; exact hdf)
    have E0 := Lib.hid e0
    clear hc hdg e0
    go_enter Tryd.func90, Tryd.ntmps90
    go_wp2_with (first
      | (go_at_call 63; go_must (refine (here_lit c (by rfl) HC.out (by assumption) HS.out).mono ?_; rintro e w1 ⟨rfl, h1⟩))
      | (go_at_call 49; go_must (refine (digit_any c _).mono ?_; rintro e w2 ⟨rfl, hw2⟩; have hw2 := hw2.symm; subst hw2; rw [hdf])))
    go_ret
    rw [E0.out]
    exact ⟨by simp; try rfl, by rw [Nat.add_zero]; assumption⟩
set_option maxRecDepth 100000 in
set_option maxHeartbeats 1000000 in
theorem rword_at (l : List UInt8) (_hl : l.length ≤ 100) (h0 : ∀ c ∈ l, c ≠ 0) (h : RA w0 g sb w st.at_ st.depth false) (hf : st.fault = none) (hs : sb = ⟨s.toArray⟩) : Calls Tryd.prog 67 #[.pointer (some ⟨g, 0, none⟩), .string ⟨l.toArray⟩] w fun e w' => ∃ ok, e = .returned (.bool ok) ∧ RPost w0 g sb (st.word s l) ok w' := by
  have HS := Lib.hid hs
  have HSZ : Hid (sb.size = s.length) := by show _ = _; rw [hs]; simp [ByteArray.size]
  have HF := Lib.hid hf
  obtain ⟨lb, hlb⟩ : ∃ lb : ByteArray, lb = ⟨l.toArray⟩ := ⟨_, rfl⟩
  have hlz : lb.size = l.length := by rw [hlb]; simp [ByteArray.size]
  have HG : Hid (∀ i, i < l.length → ∀ hh : i < lb.size, lb[i]'hh = l.getD i 0) := by
    intro i hi hh
    subst hlb
    simp [List.getD, List.getElem?_eq_getElem hi]
    rfl
  rw [← hlb]
  have HLZ := Lib.hid hlz
  have H0 := Lib.hid h0
  clear hs hf hlb hlz h0
  go_enter Tryd.func67, Tryd.ntmps67
  go_wp2
  go_loopw [5] (fun iv wr => ∃ i : Nat, i ≤ l.length ∧ iv = .int .i64 (i : Int) ∧ RA w0 g sb wr (st.at_ + i) st.depth false ∧ Hid (st.word s l = (st.to (st.at_ + i)).word s (l.drop i))) (fun iv _ => l.length - (intOf iv).toNat)
  case atStart => exact ⟨0, Nat.zero_le _, rfl, h, rfl⟩
  case round =>
    obtain ⟨i, hi, rfl, hR, HW⟩ := hrel
    clear h
    by_cases hlt : i < l.length
    · obtain ⟨c, hc⟩ : ∃ c : UInt8, c = l.getD i 0 := ⟨_, rfl⟩
      have hce : l[i] = c := by rw [hc]; simp [List.getD, List.getElem?_eq_getElem hlt]
      have hc0 : c ≠ 0 := H0.out c (by rw [← hce]; exact List.getElem_mem hlt)
      have hgi := HG.out i hlt
      rw [← hc] at hgi
      have hiI : (i : Int) < (lb.size : Int) := by rw [HLZ.out]; omega
      have hi0 : (0 : Int) ≤ (i : Int) := by omega
      have hd : decide (i < lb.size) = true := by simp; rw [HLZ.out]; exact hlt
      obtain ⟨b, hb⟩ : ∃ b : UInt8, b = s.getD (st.at_ + i) 0 := ⟨_, rfl⟩
      have HB := Lib.hid hb.symm
      obtain ⟨k0, k1, k2⟩ := hR.kI
      have hdrop : l.drop i = c :: l.drop (i + 1) := by rw [List.drop_eq_getElem_cons hlt, hce]
      have hsee : (st.to (st.at_ + i)).sees s c = decide (b = c) := by
        unfold PS.sees PS.to
        rw [Bool.eq_iff_iff, beq_iff_eq, decide_eq_true_eq, hb]
        constructor
        · intro hh; simp [List.getD, hh]
        · intro hh
          have hk : st.at_ + i < s.length := getD_lt (by rw [hh]; exact hc0)
          rw [List.getElem?_eq_getElem hk]
          simp [List.getD, List.getElem?_eq_getElem hk] at hh
          rw [hh]
      have HLT := Lib.hid hlt
      have HR := Lib.hid hR
      by_cases hbc : b = c
      · have hw2 : st.word s l = (st.to (st.at_ + (i + 1))).word s (l.drop (i + 1)) := by
          rw [HW.out, hdrop, PS.word]
          have hm : (st.to (st.at_ + i)).must s c = st.to (st.at_ + (i + 1)) := by
            unfold PS.must
            rw [hsee, decide_eq_true hbc]
            rfl
          rw [hm]
          rw [if_pos (show (st.to (st.at_ + (i + 1))).fault = none from HF.out)]
        have HW2 := Lib.hid hw2
        have hq : ((b.toNat : Int) == (c.toNat : Int)) = true := by rw [hbc]; simp
        have hq2 : ((b.toNat : Int) != (c.toNat : Int)) = false := by rw [bne, hq]; rfl
        have HKL : Hid (st.at_ + i < sb.size) := by
          show _ < _
          rw [HSZ.out]
          exact getD_lt (by rw [← hb, hbc]; exact hc0)
        clear hi hlt hc hce hc0 hb hdrop hsee hbc hw2 hR
        go_wp2
        refine AnyC.startB (fun w' => RA w0 g sb w' (st.at_ + i) st.depth false) (by kernel_rfl) rfl ?_
        intro w1 hb1 _
        have R1 := Lib.hid (HR.out.below hb1)
        clear hb1
        apply AnyC.take (i := 0) rfl (by kernel_rfl) rfl
        · intro w' hC K hK
          go_wp2
          exact hK
        · rfl
        apply AnyC.take (i := 2) rfl (by kernel_rfl) rfl
        · intro w' hC K hK
          go_wp2
          exact hK
        · rfl
        apply AnyC.take (i := 3) rfl (by kernel_rfl) rfl
        · intro w' hC K hK
          go_wp2
          exact hK
        · rfl
        apply AnyC.take (i := 4) rfl (by kernel_rfl) rfl
        · intro w' hC K hK
          go_wp2
          exact hK
        · rfl
        apply AnyC.solo (i := 1) rfl (by kernel_rfl) R1.out
        go_wp2_with (go_at_call 63; go_must (refine (here_lit b (by rfl) HB.out R1.out HS.out).mono ?_; rintro e w2 ⟨rfl, h2⟩))
        refine ⟨rfl, ?_⟩
        have R2 := Lib.hid h2
        obtain ⟨c0, c1, c2, c3, fz⟩ := h2.cells
        clear h2
        apply AnyC.take (i := 5) rfl (by kernel_rfl) rfl
        · intro w' hC K hK
          go_wp2
          exact hK
        · rfl
        refine AnyC.done R2.out (by kernel_rfl) ?_
        go_wp2
        go_roundw
        case rel => exact ⟨i + 1, HLT.out, by go_num, by have h_ := R2.out.next HKL.out; rw [Nat.add_assoc] at h_; exact h_, HW2.out⟩
        case measure => have := HLT.out; simp [intOf]; omega
      · have hw2 : st.word s l = (st.to (st.at_ + i)).fail ((st.at_ + i : Nat) : Int) 2 := by
          rw [HW.out, hdrop, PS.word]
          have hm : (st.to (st.at_ + i)).must s c = (st.to (st.at_ + i)).fail ((st.at_ + i : Nat) : Int) 2 := by
            unfold PS.must
            rw [hsee, decide_eq_false hbc]
            rfl
          rw [hm]
          rw [if_neg (PS.fail_ne _ _ _)]
        have HW2 := Lib.hid hw2
        have hne : b.toNat ≠ c.toNat := fun e => hbc (UInt8.toNat_inj.1 e)
        have hq : ((b.toNat : Int) == (c.toNat : Int)) = false := by simp; omega
        have hq2 : ((b.toNat : Int) != (c.toNat : Int)) = true := by rw [bne, hq]; rfl
        clear hi hlt hc hce hc0 hb hdrop hsee hbc hw2 hR hne
        go_wp2
        refine AnyC.startB (fun w' => RA w0 g sb w' (st.at_ + i) st.depth false) (by kernel_rfl) rfl ?_
        intro w1 hb1 _
        have R1 := Lib.hid (HR.out.below hb1)
        clear hb1
        apply AnyC.take (i := 0) rfl (by kernel_rfl) rfl
        · intro w' hC K hK
          go_wp2
          exact hK
        · rfl
        apply AnyC.take (i := 2) rfl (by kernel_rfl) rfl
        · intro w' hC K hK
          go_wp2
          exact hK
        · rfl
        apply AnyC.take (i := 3) rfl (by kernel_rfl) rfl
        · intro w' hC K hK
          go_wp2
          exact hK
        · rfl
        apply AnyC.take (i := 4) rfl (by kernel_rfl) rfl
        · intro w' hC K hK
          go_wp2
          exact hK
        · rfl
        apply AnyC.solo (i := 1) rfl (by kernel_rfl) R1.out
        go_wp2_with (go_at_call 63; go_must (refine (here_lit b (by rfl) HB.out R1.out HS.out).mono ?_; rintro e w2 ⟨rfl, h2⟩))
        refine ⟨rfl, ?_⟩
        have R2 := Lib.hid h2
        clear h2
        apply AnyC.take (i := 5) rfl (by kernel_rfl) rfl
        · intro w' hC K hK
          go_wp2
          exact hK
        · rfl
        refine AnyC.done R2.out (by kernel_rfl) ?_
        go_wp2
        go_ret
        refine ⟨false, rfl, ?_⟩
        rw [HW2.out, PS.fail_none (show (st.to (st.at_ + i)).fault = none from HF.out)]
        exact RPost.no rfl R2.out
    · obtain rfl : i = l.length := by omega
      have hd : decide (l.length < lb.size) = false := by simp; rw [HLZ.out]; omega
      have hn : ¬ (l.length : Int) < (lb.size : Int) := by rw [HLZ.out]; omega
      have hge : (lb.size : Int) ≤ (l.length : Int) := by rw [HLZ.out]; omega
      have hw2 := HW.out
      rw [List.drop_length, PS.word] at hw2
      have HW2 := Lib.hid hw2
      have HR := Lib.hid hR
      clear hw2 hR hi hlt
      go_wp2
      go_ret
      refine .inr ⟨rfl, ?_⟩
      rw [HW2.out]
      exact RPost.yes HF.out HR.out
end
end Go.Proofs.YtkbopeoaoakfnaaDoor
