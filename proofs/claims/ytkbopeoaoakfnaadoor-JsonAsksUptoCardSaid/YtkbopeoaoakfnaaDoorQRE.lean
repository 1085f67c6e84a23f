/- The texts RR9 RR10 of this work, merged by wip/merge.py. No conditions. -/
import Derived.Test.YtkbopeoaoakfnaaDoorQRD
import Derived.Test.YtkbopeoaoakfnaaDoorQTC
import Derived.Test.YtkbopeoaoakfnaaDoorQRA
namespace Go.Proofs.YtkbopeoaoakfnaaDoor
open Go.RowKit
section
variable {α : Type} {s : List UInt8} {e : UInt8} {one : α → PS → α × PS} {m : Nat} {x : α} {S : PS}
theorem loopP_bad1 (h : (one x S).2.fault ≠ none) : (loopP s e one (m + 1) x S).2.fault = (one x S).2.fault := by
  unfold loopP
  rw [if_neg (by rw [PS.blanks_fault]; exact h)]
  rfl
theorem loopP_end (h : (one x S).2.fault = none) (h2 : ((one x S).2.blanks s).sees s e = true) : loopP s e one (m + 1) x S = ((one x S).1, ((one x S).2.blanks s).next s e) := by
  unfold loopP
  rw [if_pos (by rw [PS.blanks_fault]; exact h), if_pos h2]
theorem loopP_bad2 (h : (one x S).2.fault = none) (h2 : ((one x S).2.blanks s).sees s e = false) (h3 : ((one x S).2.blanks s).sees s 44 = false) : (loopP s e one (m + 1) x S).2.fault = some ((((one x S).2.blanks s).at_ : Int), 2) := by
  have hm : ((one x S).2.blanks s).must s 44 = ((one x S).2.blanks s).fail ((one x S).2.blanks s).at_ 2 := by unfold PS.must; rw [if_neg (by rw [h3]; decide)]
  have hf : (((one x S).2.blanks s).fail ((one x S).2.blanks s).at_ 2).fault = some ((((one x S).2.blanks s).at_ : Int), 2) := by rw [PS.fail_none (by rw [PS.blanks_fault]; exact h)]
  unfold loopP
  rw [if_pos (by rw [PS.blanks_fault]; exact h), if_neg (by rw [h2]; decide), hm, PS.blanks_fault, hf, if_neg (by simp)]
  show (PS.blanks _ s).fault = _
  rw [PS.blanks_fault, hf]
theorem loopP_next (h : (one x S).2.fault = none) (h2 : ((one x S).2.blanks s).sees s e = false) (h3 : ((one x S).2.blanks s).sees s 44 = true) :
    loopP s e one (m + 1) x S = loopP s e one m (one x S).1 ((((one x S).2.blanks s).to (((one x S).2.blanks s).at_ + 1)).blanks s) := by
  have hm : ((one x S).2.blanks s).must s 44 = ((one x S).2.blanks s).to (((one x S).2.blanks s).at_ + 1) := by unfold PS.must; rw [if_pos h3]; rfl
  conv => lhs; unfold loopP
  rw [if_pos (by rw [PS.blanks_fault]; exact h), if_neg (by rw [h2]; decide), hm, if_pos (by rw [PS.blanks_fault]; exact h)]
/-- What is still to come, at the head of the reference's loop. -/
def LR (s : List UInt8) (e : UInt8) (one : α → PS → α × PS) (first : Bool) (m : Nat) (x : α) (S : PS) : α × PS :=
  if first = true ∧ S.sees s e = true then (x, (S.next s e).higher) else ((loopP s e one m x S).1, (loopP s e one m x S).2.higher)
theorem memP_LR {n : Nat} {st : PS} (h : (st.open_ s).fault = none) : memP s e one n x st = LR s e one true n x (st.open_ s) := by
  unfold memP LR
  by_cases h2 : (st.open_ s).sees s e = true
  · rw [if_pos h2, if_pos ⟨rfl, h2⟩]
  · rw [if_neg h2, if_pos h, if_neg (fun h3 => h2 h3.2)]
theorem memP_deep {n : Nat} {st : PS} {a : Int × Int} (h : (st.open_ s).fault = some a) : (memP s e one n x st).2.fault = some a := by
  unfold memP
  split
  · show ((st.open_ s).next s e).fault = _
    rw [PS.next_fault, h]
  · rw [if_neg (by rw [h]; simp)]
    exact h
end
/-- What the reader's value does, for texts whose rest is shorter than n. -/
def RVAL (s : List UInt8) (n : Nat) : Prop := ∀ (g : Nat) (w : World) (st : PS) (sb : ByteArray), sb = ⟨s.toArray⟩ → RA w g sb w st.at_ st.depth false → st.fault = none → s.length - st.at_ < n → 0 ≤ st.depth → st.depth ≤ 16 →
  Calls Tryd.prog 35 #[.pointer (some ⟨g, 0, none⟩)] w (TrPost w w g sb (valP s n st))
/-- The rounds of list: the tree at b. -/
def RLI (w : World) (g : Nat) (sb : ByteArray) (s : List UInt8) (n : Nat) (d : Int) (M : List JV × PS) (wr : World) : Prop :=
  ∃ (l : List JV) (S : PS) (m : Nat) (pv : Value) (uss : List (List Value)), RA w g sb wr S.at_ S.depth false ∧ S.fault = none ∧ s.length - S.at_ < m ∧ s.length - S.at_ < n ∧ S.depth = d ∧ LR s 93 (listOne (valP s n)) (decide (l = [])) m l S = M ∧
    wr.heap[w.heap.size]? = some (.cells #[.int .i64 0, .bool false, .string ⟨#[]⟩, .slice none 0 0, .slice none 0 0] 35 (0, 0)) ∧
    wr.heap[w.heap.size + 1]? = some (.cells #[.int .i64 4, .bool false, .string ⟨#[]⟩, .slice none 0 0, pv] 35 (0, 0)) ∧ TT wr (w.heap.size + 2) (.slice none 0 0) pv [] uss (jtL l) ∧ l.length ≤ S.at_
section
variable {w0 w w' : World} {g : Nat} {sb : ByteArray} {s : List UInt8} {st : PS}
set_option maxRecDepth 100000 in
set_option maxHeartbeats 1000000 in
theorem rlist_at {n : Nat} (hV : RVAL s n) (hs : sb = ⟨s.toArray⟩) (h : RA w g sb w st.at_ st.depth false) (hf : st.fault = none) (hlt : st.at_ < s.length) (hn : s.length - st.at_ ≤ n) (hd0 : 0 ≤ st.depth) (hd1 : st.depth ≤ 16) :
    Calls Tryd.prog 64 #[.pointer (some ⟨g, 0, none⟩)] w (TrPost w w g sb (JV.list (memP s 93 (listOne (valP s n)) n [] st).1, (memP s 93 (listOne (valP s n)) n [] st).2)) := by
  obtain ⟨M, hM⟩ : ∃ M, M = memP s 93 (listOne (valP s n)) n [] st := ⟨_, rfl⟩
  rw [← hM]
  have HS := Lib.hid hs
  have HSZ : Hid (sb.size = s.length) := by show _ = _; rw [hs]; simp [ByteArray.size]
  have H := Lib.hid h
  have hglt := h.glt
  obtain ⟨B, hBe⟩ : ∃ B, B = w.heap.size := ⟨_, rfl⟩
  obtain ⟨w3, hw3⟩ : ∃ w3, w3 = (w.alloc (.cells #[.int .i64 0, .bool false, .string ⟨#[]⟩, .slice none 0 0, .slice none 0 0] 35)).alloc (.cells #[.int .i64 4, .bool false, .string ⟨#[]⟩, .slice none 0 0, .slice none 0 0] 35) := ⟨_, rfl⟩
  have h3 : Below B w w3 ∧ w3.heap[B]? = some (.cells #[.int .i64 0, .bool false, .string ⟨#[]⟩, .slice none 0 0, .slice none 0 0] 35 (0, 0)) ∧ w3.heap[B + 1]? = some (.cells #[.int .i64 4, .bool false, .string ⟨#[]⟩, .slice none 0 0, .slice none 0 0] 35 (0, 0)) ∧ w3.heap.size = B + 2 := by
    rw [hw3, hBe]
    exact ⟨((Below.refl _ _).alloc (Nat.le_refl _) _).alloc (by simp) _, heap_alloc2_old _ _ _, heap_alloc2_new _ _ _, by simp⟩
  have R3 := Lib.hid (h.below (by rw [← hBe]; exact h3.1))
  have H3 := Lib.hid h3
  have HBe := Lib.hid hBe
  have HV := Lib.hid hV
  have HN := Lib.hid hn
  have HLT := Lib.hid hlt
  clear hV hs h hlt hn h3
  by_cases hd : 16 < st.depth + 1
  · have HMF : Hid (M.2.fault = some ((st.at_ : Int), 6)) := by show _ = _; rw [hM]; exact memP_deep (open_deep hd hf)
    clear hM hf
    go_enter Tryd.func64, Tryd.ntmps64
    go_upto_region 2 with (fail)
    rw [← hw3, ← hBe]
    clear hw3 hBe
    go_wp2_with (go_at_call 88; go_must (refine (ropen_deep R3.out.self hd (by omega)).mono ?_; rintro e w4 ⟨rfl, h4⟩; have H4 := Lib.hid h4; have q1 := heap_turn H3.out.2.1 h4.turn (by have := HBe.out; omega); have q2 := heap_turn H3.out.2.2.1 h4.turn (by have := HBe.out; omega); have Q1 := Lib.hid q1; have Q2 := Lib.hid q2; clear h4; obtain ⟨z0, z1, z2, z3, z4, zf⟩ := row5 q1; obtain ⟨y0, y1, y2, y3, y4, yf⟩ := row5 q2; clear q1 q2))
    have h9 := set5_row (a0 := .int .i64 4) (a1 := .bool false) (a2 := .string ⟨#[]⟩) (a3 := .slice none 0 0) (a4 := .slice none 0 0) Q1.out
    refine bodyPost_ret (results_row_tmp rfl _ _ B _ _ _ _ rfl h9 Tryd.underlying35 rfl tree5) rfl ?_
    refine TrPost.done (ss := []) (lo := B + 2) (TT.nil w4 _) (by omega) (by rw [← HBe.out]; omega) ?_ (by intro h_; cases h_)
    exact RPost.no6 HMF.out ((RA.lift R3.out H4.out).free set5_turn (by rw [← HBe.out]; exact Nat.le_refl _))
  · have hfo : (st.open_ s).fault = none := by rw [open_flat hd]; exact hf
    have HM0 : Hid (M = LR s 93 (listOne (valP s n)) true n [] (st.open_ s)) := by show _ = _; rw [hM]; exact memP_LR hfo
    have HO : Hid ((st.open_ s).at_ = st.at_ + 1 + runB blankB (s.drop (st.at_ + 1)) ∧ (st.open_ s).depth = st.depth + 1) := by show _ ∧ _; rw [open_flat hd]; exact ⟨rfl, rfl⟩
    have HFO := Lib.hid hfo
    clear hM hf hfo
    go_enter Tryd.func64, Tryd.ntmps64
    go_upto_region 2 with (fail)
    rw [← hw3, ← hBe]
    clear hw3 hBe
    go_wp2_with (go_at_call 88; go_must (refine (ropen_flat R3.out.self HS.out hd0 hd HLT.out).mono ?_; rintro e w4 ⟨rfl, h4⟩; have H4 := Lib.hid h4; have q1 := heap_turn H3.out.2.1 h4.turn (by have := HBe.out; omega); have q2 := heap_turn H3.out.2.2.1 h4.turn (by have := HBe.out; omega); have Q1 := Lib.hid q1; have Q2 := Lib.hid q2; clear h4 q1 q2))
    go_loopw [] (fun wr => RLI w g sb s n (st.depth + 1) M wr) (fun wr => s.length - rdAt wr g)
    case atStart =>
      refine ⟨[], st.open_ s, n, _, [], ?_, HFO.out, ?_, ?_, HO.out.2, HM0.out.symm, ?_, ?_, TT.nil _ _, Nat.zero_le _⟩
      · rw [HO.out.1, HO.out.2]; exact RA.lift R3.out H4.out
      · rw [HO.out.1]; have h1_ := HLT.out; have h2_ := HN.out; omega
      · rw [HO.out.1]; have h1_ := HLT.out; have h2_ := HN.out; omega
      · rw [← HBe.out]; exact Q1.out
      · rw [← HBe.out]; exact Q2.out
    case round =>
      obtain ⟨l, S, m, pv, uss, hR, hSf, hm, hmn, hSd, hLR, hq1, hq2, hT, hll⟩ := hrel
      rw [← HBe.out] at hq1 hq2 hT
      obtain ⟨_, _, Ap, cp, e1, rfl⟩ := hT.form
      clear e1
      obtain ⟨np, hnp⟩ : ∃ np, np = (jtL l).length := ⟨_, rfl⟩
      rw [← hnp] at hq2 hT
      have hnl : np = l.length := by rw [hnp, jtL_len]
      obtain ⟨b, hb⟩ : ∃ b : UInt8, b = s.getD S.at_ 0 := ⟨_, rfl⟩
      have HB := Lib.hid hb.symm
      have hse := sees_getD (st := S) (s := s) (c := 93) (by decide)
      rw [← hb] at hse
      obtain ⟨c0, c1, c2, c3, fz⟩ := hR.cells
      obtain ⟨k0, k1, k2⟩ := hR.kI
      obtain ⟨y0, y1, y2, y3, y4, yf⟩ := row5 hq2
      have HR := Lib.hid hR
      have HSF := Lib.hid hSf
      have HMM := Lib.hid (And.intro hm hmn)
      have HSD := Lib.hid hSd
      have HLR := Lib.hid hLR.symm
      have HQ1 := Lib.hid hq1
      have HQ2 := Lib.hid hq2
      have HT := Lib.hid hT
      have HLL := Lib.hid hll
      have HNL := Lib.hid hnl
      have HSE := Lib.hid hse
      clear hR hSf hm hmn hLR hq1 hq2 hT hll hnl hnp hse hb
      by_cases hx : l = [] ∧ b = 93
      · obtain ⟨hx1, hx2⟩ := hx
        have hn0 : np = 0 := by rw [HNL.out, hx1]; rfl
        have q93 : ((b.toNat : Int) != 93) = false := by rw [hx2]; rfl
        have HSEE : Hid (S.sees s 93 = true) := by show _ = _; rw [HSE.out, hx2]; rfl
        have HM9 : Hid (M = ([], (S.to (S.at_ + 1)).higher)) := by
          show _ = _
          rw [HLR.out]
          unfold LR
          rw [if_pos ⟨by rw [hx1]; rfl, HSEE.out⟩, PS.next_yes HSEE.out, hx1]
        have HLT2 : Hid (S.at_ + 1 ≤ sb.size) := by show _ ≤ _; rw [HSZ.out]; exact getD_lt (by rw [HB.out, hx2]; decide)
        have hd9 : S.depth ≤ 17 := by omega
        have hd8 : 1 ≤ S.depth := by omega
        have HX0 : Hid (∀ j : Nat, RA w g sb (((wr.drewN j).setCell ⟨g, 1, none⟩ (.int .i64 ((S.at_ : Int) + 1))).setCell ⟨g, 2, none⟩ (.int .i64 (S.depth - 1))) (S.at_ + 1) (S.depth - 1) false ∧ Turn g wr (((wr.drewN j).setCell ⟨g, 1, none⟩ (.int .i64 ((S.at_ : Int) + 1))).setCell ⟨g, 2, none⟩ (.int .i64 (S.depth - 1)))) :=
          fun j => ⟨(RA.putz (HR.out.drewN j) (by omega) HLT2.out).putD _, (((Turn.refl g wr).drewN j).setCell _).setCell _⟩
        subst hn0 hx1
        clear hx2 hSd y0 y1 y2 y3 yf
        go_upto_region 17 with (go_at_call 63; go_must (refine (here_q HR.out HS.out (by rfl) HB.out).mono ?_; rintro e w5 ⟨rfl, j, rfl⟩))
        clear y4
        have hX := HX0.out j
        obtain ⟨wx, hwx⟩ : ∃ wx, wx = (((wr.drewN j).setCell ⟨g, 1, none⟩ (.int .i64 ((S.at_ : Int) + 1))).setCell ⟨g, 2, none⟩ (.int .i64 (S.depth - 1))) := ⟨_, rfl⟩
        rw [← hwx] at hX ⊢
        clear hwx
        have HX := Lib.hid hX
        have q1 := heap_turn HQ1.out hX.2 (by have := HBe.out; omega)
        have q2 := heap_turn HQ2.out hX.2 (by have := HBe.out; omega)
        have Q1x := Lib.hid q1
        obtain ⟨z0, z1, z2, z3, z4, zf⟩ := row5 q1
        obtain ⟨y0, y1, y2, y3, y4, yf⟩ := row5 q2
        clear q1 q2 hX
        go_wp2
        have h9 := set5_row (a0 := .int .i64 4) (a1 := .bool false) (a2 := .string ⟨#[]⟩) (a3 := .slice none 0 0) (a4 := .slice Ap 0 cp) Q1x.out
        refine bodyPost_ret (results_row_tmp rfl _ _ B _ _ _ _ rfl h9 Tryd.underlying35 rfl tree5) rfl ?_
        rw [HM9.out]
        refine TrPost.done (ss := []) (lo := B + 2) (HT.out.turn HX.out.2 (by have := HBe.out; omega)) (by omega) (by rw [← HBe.out]; omega) ?_ (fun _ => rfl)
        exact RPost.yes HSF.out (HX.out.1.free set5_turn (by rw [← HBe.out]; exact Nat.le_refl _))
      · have hnotx : ¬ (decide (l = []) = true ∧ S.sees s 93 = true) := by
          rintro ⟨e1, e2⟩
          rw [HSE.out] at e2
          exact hx ⟨by simpa using e1, by simpa using e2⟩
        have HM9 : Hid (M = ((loopP s 93 (listOne (valP s n)) m l S).1, (loopP s 93 (listOne (valP s n)) m l S).2.higher)) := by
          show _ = _
          rw [HLR.out]
          unfold LR
          rw [if_neg hnotx]
        clear hnotx
        go_upto_region 4 with (fail)
        go_cut [20] from 12 to 52 (fun v w' => v = .bool true ∧ ∃ j, w' = wr.drewN j)
        case first =>
          by_cases h93 : b = 93
          · have q93 : ((b.toNat : Int) != 93) = false := by rw [h93]; rfl
            have hne : l ≠ [] := fun e => hx ⟨e, h93⟩
            have hp : 0 < np := by rw [HNL.out]; exact List.length_pos_iff.2 hne
            have dp : decide ((np : Int) > 0) = true := by simp; omega
            have hpI : (0 : Int) < (np : Int) := by omega
            clear hx h93 hne
            go_wp2_with (go_at_call 63; go_must (refine (here_q HR.out HS.out (by rfl) HB.out).mono ?_; rintro e w5 ⟨rfl, j, rfl⟩))
            go_meet
            case rel => exact ⟨rfl, _, rfl⟩
          · have q93 : ((b.toNat : Int) != 93) = true := by have h_ := ne_num h93; rw [bne, show ((b.toNat : Int) == 93) = false from h_]; rfl
            clear hx h93
            go_wp2_with (go_at_call 63; go_must (refine (here_q HR.out HS.out (by rfl) HB.out).mono ?_; rintro e w5 ⟨rfl, j, rfl⟩))
            go_meet
            case rel => exact ⟨rfl, _, rfl⟩
        case rest =>
          obtain ⟨rfl, j, rfl⟩ := hcut
          obtain ⟨m', rfl⟩ : ∃ m', m = m' + 1 := ⟨m - 1, by have := HMM.out.1; omega⟩
          obtain ⟨P, hP⟩ : ∃ P, P = valP s n S := ⟨_, rfl⟩
          have hone : listOne (valP s n) l S = (l ++ [P.1], P.2) := by rw [hP]; rfl
          have hle : S.at_ ≤ P.2.at_ := by rw [hP]; exact valP_le s n S
          have hdp : P.2.depth = S.depth := by rw [hP]; exact valP_depth s n S
          have HCV := Lib.hid (HV.out g (wr.drewN j) S sb HS.out (HR.out.drewN j).self HSF.out HMM.out.2 (by omega) (by omega))
          rw [← hP] at HCV
          have HONE := Lib.hid hone
          have HLE := Lib.hid (And.intro hle hdp)
          have HGB : Hid (g < B) := by show _ < _; have := HBe.out; omega
          clear c0 c1 c2 c3 fz k0 k1 k2 y0 y1 y2 y3 y4 yf hx hP hone hle hdp hglt
          by_cases hPf : P.2.fault = none
          · have HPF := Lib.hid hPf
            go_upto_region 8 with (go_at_call 35; go_must (refine HCV.out.mono ?_; rintro e w5 ⟨ok, us, t, rfl, hT5, hP5, hok⟩; obtain ⟨rfl, h5⟩ := hP5.true_ HPF.out; obtain rfl := hok rfl; obtain ⟨kx, bx, sx, Ax, nx, cx, Ay, ny, cy, rfl⟩ := hT5.form; have H5 := Lib.hid h5; have HT5 := Lib.hid hT5; clear hT5 hP5 hok h5))
            clear hPf HCV
            obtain ⟨w6, hw6⟩ : ∃ w6, w6 = w5.alloc (.cells #[.int .i64 kx, .bool bx, .string ⟨sx.toArray⟩, .slice Ax nx cx, .slice Ay ny cy] 35) := ⟨_, rfl⟩
            have hb6 : Below w5.heap.size w5 w6 := by rw [hw6]; exact (Below.refl _ _).alloc (Nat.le_refl _) _
            have q3 : w6.heap[w5.heap.size]? = some (.cells #[.int .i64 kx, .bool bx, .string ⟨sx.toArray⟩, .slice Ax nx cx, .slice Ay ny cy] 35 (0, 0)) := by rw [hw6]; exact heap_alloc_new _ _
            rw [← hw6]
            have HB6 := Lib.hid hb6
            have T5 : Hid (TT w5 (B + 2) (.slice none 0 0) (.slice Ap np cp) [] uss (jtL l)) := HT.out.turn (w := wr) (((Turn.refl g wr).drewN j).trans H5.out.turn) (by have := HGB.out; omega)
            have q2 := heap_below (heap_turn HQ2.out (((Turn.refl g wr).drewN j).trans H5.out.turn) (by have := HGB.out; omega)) hb6
            have Q1x := Lib.hid (heap_below (heap_turn HQ1.out (((Turn.refl g wr).drewN j).trans H5.out.turn) (by have := HGB.out; omega)) hb6)
            have Q2x := Lib.hid q2
            have RX := Lib.hid ((RA.lift (HR.out.drewN j) H5.out).below hb6)
            have HSZB : Hid (B + 2 ≤ wr.heap.size) := by show _ ≤ _; have := lt_of_heap HQ2.out; omega
            obtain ⟨x0, x1, x2, x3, x4, xf⟩ := row5 q3
            obtain ⟨y0, y1, y2, y3, y4, yf⟩ := row5 q2
            clear hw6 hb6 q3 q2
            obtain ⟨l0, hl0, lz0, lz1, lz2⟩ := info_parts treeinfo
            have HP8 : Hid (∀ o : Obj, (w6.alloc o).ownsRow (B + 2) 35 5 (.slice Ap np cp) np uss.flatten) := fun o => by have h_ := ((T5.out.below HB6.out).below ((Below.refl w6.heap.size w6).alloc (Nat.le_refl _) o)).parts; rw [jtL_len, ← HNL.out] at h_; exact h_
            have HNS : Hid (np + 1 ≤ 10000) := by show _ ≤ _; have h1_ := HNL.out; have h2_ := HLL.out; have h3_ := HR.out.kI; omega
            go_upto_region 9 with (at_builtin; go_loud (refine app1 (cs := #[.int .i64 kx, .bool bx, .string ⟨sx.toArray⟩, .slice Ax nx cx, .slice Ay ny cy]) (n := np) (s := 5) (base := B + 2) rfl rfl rfl rfl Tryd.underlying33 hl0 lz0 lz1 lz2 rfl (by decide) (HP8.out _) (heap_alloc_new _ _) rfl (HT5.out.ones) (by have h_ := HNS.out; omega) (by have h_ := HNS.out; omega) (by have h1_ := HSZB.out; have h2_ := H5.out.size; have h3_ := HB6.out.size; simp at h2_ ⊢; omega) ?_; intro pv9 w9 ho9 hg9 hb9; obtain ⟨A9, n9, hv9, _, _⟩ := own_rd ho9; subst hv9; have HNP : Hid ((Value.slice Ap np cp).ownBlock ≠ some (B + 1) ∧ (Value.slice Ap np cp).ownBlock ≠ some B) := ⟨fun e => by have := (HT.out.plt _ e).1; omega, fun e => by have := (HT.out.plt _ e).1; omega⟩; have hc9 := own_other (heap_below Q2x.out ((Below.refl w6.heap.size w6).alloc (Nat.le_refl _) _)) hg9 HNP.out.1; have HC9 := Lib.hid hc9; have HD9 := Lib.hid (own_other (heap_below Q1x.out ((Below.refl w6.heap.size w6).alloc (Nat.le_refl _) _)) hg9 HNP.out.2); obtain ⟨p0, p1, p2, p3, p4, pf⟩ := row5 hc9; have RX9 := Lib.hid ((RX.out.below ((Below.refl w6.heap.size w6).alloc (Nat.le_refl _) _)).grown hg9 (fun q hq => by have := (HT.out.plt q hq).1; have := HBe.out; omega)); have HT9 := Lib.hid (T5.out.part (m := wr.heap.size) (fun q hq => by cases hq) (fun q hq => (HT.out.plt q hq).2) HT5.out (HB6.out.alloc HB6.out.size _) (by rw [jtL_len, ← HNL.out]) rfl ho9 hg9 hb9 HSZB.out); clear ho9 hg9 hb9 hc9))
            obtain ⟨w10, hw10⟩ : ∃ w10, w10 = w9.setCell ⟨B + 1, 4, none⟩ (.slice A9 (np + 1) n9) := ⟨_, rfl⟩
            have ht10 : Turn (B + 1) w9 w10 := by rw [hw10]; exact (Turn.refl _ _).setCell _
            have RX10 := Lib.hid (RX9.out.free ht10 (by have := HBe.out; omega))
            have HC10 : Hid (w10.heap[B + 1]? = some (.cells #[.int .i64 4, .bool false, .string ⟨#[]⟩, .slice none 0 0, .slice A9 (np + 1) n9] 35 (0, 0))) := by show _ = _; rw [hw10]; exact heap_setCell_same _ _ _ _ _ _ HC9.out
            have HD10 := Lib.hid (heap_turn HD9.out ht10 (by omega))
            have HT10 := Lib.hid (HT9.out.turn ht10 (by omega))
            rw [← jtL_snoc] at HT10
            rw [← hw10]
            clear hw10 ht10 HC9 HD9 HT9 RX9 p0 p1 p2 p3 p4 pf x0 x1 x2 x3 x4 xf y0 y1 y2 y3 y4 yf
            obtain ⟨Bk, hBk⟩ : ∃ Bk, Bk = P.2.blanks s := ⟨_, rfl⟩
            have hBa : Bk.at_ = P.2.at_ + runB blankB (s.drop P.2.at_) := by rw [hBk]; rfl
            have hBd : Bk.depth = S.depth := by rw [hBk, PS.blanks_depth]; exact HLE.out.2
            have hBf : Bk.fault = none := by rw [hBk, PS.blanks_fault]; exact HPF.out
            have HBK := Lib.hid (And.intro hBk (And.intro hBa hBf))
            have HRB := Lib.hid (rblanks_at RX10.out.self HS.out)
            rw [← hBa, HLE.out.2, ← hBd] at HRB
            clear hBk hBa hBf
            go_upto_region 10 with (go_at_call 34; go_must (refine HRB.out.mono ?_; rintro e w11 ⟨rfl, h11⟩; have H11 := Lib.hid h11; clear h11))
            have R11 := Lib.hid (RA.lift RX10.out H11.out)
            have q1 := heap_turn HD10.out H11.out.turn (by have := HGB.out; omega)
            have q2 := heap_turn HC10.out H11.out.turn (by have := HGB.out; omega)
            have T11 := Lib.hid (HT10.out.turn H11.out.turn (by have := HGB.out; omega))
            have Q1 := Lib.hid q1
            have Q2 := Lib.hid q2
            obtain ⟨c0, c1, c2, c3, fz⟩ := R11.out.cells
            obtain ⟨k0, k1, k2⟩ := R11.out.kI
            clear q1 q2 HC10 HD10 HT10 RX10 HRB
            obtain ⟨b2, hb2⟩ : ∃ b : UInt8, b = s.getD Bk.at_ 0 := ⟨_, rfl⟩
            have HB2 := Lib.hid hb2.symm
            have hse1 := sees_getD (st := Bk) (s := s) (c := 93) (by decide)
            have hse2 := sees_getD (st := Bk) (s := s) (c := 44) (by decide)
            rw [← hb2] at hse1 hse2
            have HS1 := Lib.hid hse1
            have HS2 := Lib.hid hse2
            clear hb2 hse1 hse2
            have hLF : (listOne (valP s n) l S).2.fault = none := by rw [HONE.out]; exact HPF.out
            have hLB : (listOne (valP s n) l S).2.blanks s = Bk := by rw [HONE.out, HBK.out.1]
            by_cases h93 : b2 = 93
            · have hsee : Bk.sees s 93 = true := by rw [HS1.out, h93]; rfl
              have HM8 : Hid (M = (l ++ [P.1], (Bk.to (Bk.at_ + 1)).higher)) := by
                show _ = _
                rw [HM9.out, loopP_end hLF (by rw [hLB]; exact hsee), hLB, HONE.out, PS.next_yes hsee]
              have q93 : ((b2.toNat : Int) == 93) = true := by rw [h93]; rfl
              have HLT2 : Hid (Bk.at_ + 1 ≤ sb.size) := by show _ ≤ _; rw [HSZ.out]; exact getD_lt (by rw [HB2.out, h93]; decide)
              have hd9 : Bk.depth ≤ 17 := by omega
              have hd8 : 1 ≤ Bk.depth := by omega
              have HX0 : Hid (∀ j : Nat, RA w g sb (((w11.drewN j).setCell ⟨g, 1, none⟩ (.int .i64 ((Bk.at_ : Int) + 1))).setCell ⟨g, 2, none⟩ (.int .i64 (Bk.depth - 1))) (Bk.at_ + 1) (Bk.depth - 1) false ∧ Turn g w11 (((w11.drewN j).setCell ⟨g, 1, none⟩ (.int .i64 ((Bk.at_ : Int) + 1))).setCell ⟨g, 2, none⟩ (.int .i64 (Bk.depth - 1)))) :=
                fun j => ⟨(RA.putz (R11.out.drewN j) (by omega) HLT2.out).putD _, (((Turn.refl g w11).drewN j).setCell _).setCell _⟩
              clear h93 hsee hLF hLB hSd hBd
              go_upto_region 17 with (go_at_call 63; go_must (refine (here_q (by first | exact R11.out | exact R11.out.drewN _) HS.out (by rfl) HB2.out).mono ?_; rintro e w5_ ⟨rfl, j2, rfl⟩))
              have hX := HX0.out j2
              obtain ⟨wx, hwx⟩ : ∃ wx, wx = (((w11.drewN j2).setCell ⟨g, 1, none⟩ (.int .i64 ((Bk.at_ : Int) + 1))).setCell ⟨g, 2, none⟩ (.int .i64 (Bk.depth - 1))) := ⟨_, rfl⟩
              rw [← hwx] at hX ⊢
              clear hwx c0 c1 c2 c3 fz
              have HX := Lib.hid hX
              have q1 := heap_turn Q1.out hX.2 (by have := HGB.out; omega)
              have q2 := heap_turn Q2.out hX.2 (by have := HGB.out; omega)
              have Q1x := Lib.hid q1
              obtain ⟨z0, z1, z2, z3, z4, zf⟩ := row5 q1
              obtain ⟨y0, y1, y2, y3, y4, yf⟩ := row5 q2
              clear q1 q2 hX
              go_wp2
              have h9 := set5_row (a0 := .int .i64 4) (a1 := .bool false) (a2 := .string ⟨#[]⟩) (a3 := .slice none 0 0) (a4 := .slice A9 (np + 1) n9) Q1x.out
              refine bodyPost_ret (results_row_tmp rfl _ _ B _ _ _ _ rfl h9 Tryd.underlying35 rfl tree5) rfl ?_
              rw [HM8.out]
              refine TrPost.done (ss := []) (lo := B + 2) (T11.out.turn HX.out.2 (by have := HGB.out; omega)) (by omega) (by rw [← HBe.out]; omega) ?_ (fun _ => rfl)
              exact RPost.yes HBK.out.2.2 (HX.out.1.free set5_turn (by rw [← HBe.out]; exact Nat.le_refl _))
            · have hsee : Bk.sees s 93 = false := by rw [HS1.out]; simp [h93]
              have q93 : ((b2.toNat : Int) == 93) = false := ne_num h93
              by_cases h44 : b2 = 44
              · have hsee2 : Bk.sees s 44 = true := by rw [HS2.out, h44]; rfl
                have HM8 : Hid (M = LR s 93 (listOne (valP s n)) (decide (l ++ [P.1] = [])) m' (l ++ [P.1]) ((Bk.to (Bk.at_ + 1)).blanks s)) := by
                  show _ = _
                  rw [HM9.out, loopP_next hLF (by rw [hLB]; exact hsee) (by rw [hLB]; exact hsee2), hLB, HONE.out]
                  unfold LR
                  rw [if_neg (by simp)]
                have q44 : ((b2.toNat : Int) != 44) = false := by rw [h44]; rfl
                have HLT2 : Hid (Bk.at_ + 1 ≤ sb.size) := by show _ ≤ _; rw [HSZ.out]; exact getD_lt (by rw [HB2.out, h44]; decide)
                have HX0 : Hid (∀ j : Nat, RA w g sb ((w11.drewN j).setCell ⟨g, 1, none⟩ (.int .i64 ((Bk.at_ : Int) + 1))) (Bk.at_ + 1) Bk.depth false ∧ Turn g w11 ((w11.drewN j).setCell ⟨g, 1, none⟩ (.int .i64 ((Bk.at_ : Int) + 1)))) :=
                  fun j => ⟨RA.putz (R11.out.drewN j) (by omega) HLT2.out, ((Turn.refl g w11).drewN j).setCell _⟩
                clear h44 h93 hsee hsee2 hLF hLB hSd
                go_wp2_with (first
                  | (go_at_call 63; go_must (refine (here_q (by first | exact R11.out | exact R11.out.drewN _) HS.out (by rfl) HB2.out).mono ?_; rintro e w5_ ⟨rfl, j2, rfl⟩))
                  | (go_at_call 34; go_must (refine (rblanks_at (HX0.out _).1.self HS.out).mono ?_; rintro e w12 ⟨rfl, h12⟩; have R12 := Lib.hid (RA.lift (HX0.out _).1 h12); have N12 := Lib.hid ((HX0.out _).2.trans h12.turn); clear h12)))
                go_roundw
                case rel =>
                  refine ⟨l ++ [P.1], (Bk.to (Bk.at_ + 1)).blanks s, m', .slice A9 (np + 1) n9, uss ++ [[.int .i64 kx, .bool bx, .string ⟨sx.toArray⟩, .slice Ax nx cx, .slice Ay ny cy]], R12.out, HBK.out.2.2, ?_, ?_, ?_, HM8.out.symm, ?_, ?_, ?_, ?_⟩
                  · show s.length - (Bk.at_ + 1 + runB blankB (s.drop (Bk.at_ + 1))) < m'
                    have h1_ := HMM.out; have h2_ := HLE.out.1; have h3_ := HBK.out.2.1; have h4_ := HLT2.out; have h5_ := HSZ.out; omega
                  · show s.length - (Bk.at_ + 1 + runB blankB (s.drop (Bk.at_ + 1))) < n
                    have h1_ := HMM.out; have h2_ := HLE.out.1; have h3_ := HBK.out.2.1; have h4_ := HLT2.out; have h5_ := HSZ.out; omega
                  · show Bk.depth = _
                    rw [hBd]; exact HSD.out
                  · rw [← HBe.out]; exact heap_turn Q1.out N12.out (by have := HGB.out; omega)
                  · rw [← HBe.out]; exact heap_turn Q2.out N12.out (by have := HGB.out; omega)
                  · rw [← HBe.out]; exact T11.out.turn N12.out (by have := HGB.out; omega)
                  · show (l ++ [P.1]).length ≤ Bk.at_ + 1 + runB blankB (s.drop (Bk.at_ + 1))
                    rw [List.length_append]
                    have h1_ := HLL.out; have h2_ := HLE.out.1; have h3_ := HBK.out.2.1
                    simp
                    omega
                case measure =>
                  rw [R12.out.rd, HR.out.rd]
                  show s.length - (Bk.at_ + 1 + runB blankB (s.drop (Bk.at_ + 1))) < _
                  have h2_ := HLE.out.1; have h3_ := HBK.out.2.1; have h4_ := HLT2.out; have h5_ := HSZ.out; omega
              · have hsee2 : Bk.sees s 44 = false := by rw [HS2.out]; simp [h44]
                have HM8 : Hid (M.2.fault = some ((Bk.at_ : Int), 2)) := by
                  show _ = _
                  rw [HM9.out]
                  show (loopP s 93 (listOne (valP s n)) (m' + 1) l S).2.fault = _
                  rw [loopP_bad2 hLF (by rw [hLB]; exact hsee) (by rw [hLB]; exact hsee2), hLB]
                have q44 : ((b2.toNat : Int) != 44) = true := by have h_ := ne_num h44; rw [bne, show ((b2.toNat : Int) == 44) = false from h_]; rfl
                obtain ⟨z0, z1, z2, z3, z4, zf⟩ := row5 Q1.out
                obtain ⟨y0, y1, y2, y3, y4, yf⟩ := row5 Q2.out
                clear h44 h93 hsee hsee2 hLF hLB hSd
                go_wp2_with (go_at_call 63; go_must (refine (here_q (by first | exact R11.out | exact R11.out.drewN _) HS.out (by rfl) HB2.out).mono ?_; rintro e w5_ ⟨rfl, j2, rfl⟩))
                have h9 := fun i => set5_row (w := w11.drewN i) (a0 := .int .i64 4) (a1 := .bool false) (a2 := .string ⟨#[]⟩) (a3 := .slice none 0 0) (a4 := .slice A9 (np + 1) n9) Q1.out
                refine bodyPost_ret (results_row_tmp rfl _ _ B _ _ _ _ rfl (h9 _) Tryd.underlying35 rfl tree5) rfl ?_
                refine TrPost.done (ss := []) (lo := B + 2) (T11.out.turn ((Turn.refl g w11).drewN _) (by have := HGB.out; omega)) (by omega) (by rw [← HBe.out]; omega) ?_ (by intro h_; cases h_)
                exact RPost.no (d' := Bk.depth) HM8.out ((R11.out.drewN _).free set5_turn (by rw [← HBe.out]; exact Nat.le_refl _))
          · have HPF := Lib.hid hPf
            have HM8 : Hid (M.2.fault = P.2.fault) := by
              show _ = _
              rw [HM9.out]
              show (loopP s 93 (listOne (valP s n)) (m' + 1) l S).2.fault = _
              rw [loopP_bad1 (by rw [HONE.out]; exact hPf), HONE.out]
            clear hPf
            go_upto_region 7 with (go_at_call 35; go_must (refine HCV.out.mono ?_; rintro e w5 ⟨ok, us, t, rfl, hT5, hP5, hok⟩; obtain ⟨rfl, kf, ef, df, e1, e2, h5⟩ := hP5.false_ HPF.out; obtain ⟨kx, bx, sx, Ax, nx, cx, Ay, ny, cy, rfl⟩ := hT5.form; have H5 := Lib.hid h5; have E5 := Lib.hid (And.intro e1 e2); clear hT5 hP5 hok h5 e1 e2))
            clear HCV
            obtain ⟨w6, hw6⟩ : ∃ w6, w6 = w5.alloc (.cells #[.int .i64 kx, .bool bx, .string ⟨sx.toArray⟩, .slice Ax nx cx, .slice Ay ny cy] 35) := ⟨_, rfl⟩
            have hb6 : Below w5.heap.size w5 w6 := by rw [hw6]; exact (Below.refl _ _).alloc (Nat.le_refl _) _
            rw [← hw6]
            have T6 : Hid (TT w6 (B + 2) (.slice none 0 0) (.slice Ap np cp) [] uss (jtL l)) := (HT.out.turn (w := wr) (((Turn.refl g wr).drewN j).trans H5.out.turn) (by have := HGB.out; omega)).below hb6
            have q2 := heap_below (heap_turn HQ2.out (((Turn.refl g wr).drewN j).trans H5.out.turn) (by have := HGB.out; omega)) hb6
            have q1 := heap_below (heap_turn HQ1.out (((Turn.refl g wr).drewN j).trans H5.out.turn) (by have := HGB.out; omega)) hb6
            have Q1x := Lib.hid q1
            have RX := Lib.hid ((RA.lift (HR.out.drewN j) H5.out).below hb6)
            obtain ⟨z0, z1, z2, z3, z4, zf⟩ := row5 q1
            obtain ⟨y0, y1, y2, y3, y4, yf⟩ := row5 q2
            clear hw6 hb6 q1 q2
            go_wp2
            have h9 := set5_row (a0 := .int .i64 4) (a1 := .bool false) (a2 := .string ⟨#[]⟩) (a3 := .slice none 0 0) (a4 := .slice Ap np cp) Q1x.out
            refine bodyPost_ret (results_row_tmp rfl _ _ B _ _ _ _ rfl h9 Tryd.underlying35 rfl tree5) rfl ?_
            refine TrPost.done (ss := []) (lo := B + 2) T6.out (by omega) (by rw [← HBe.out]; omega) ?_ (by intro h_; cases h_)
            exact RPost.fault_eq E5.out.1 E5.out.2 (RX.out.free set5_turn (by rw [← HBe.out]; exact Nat.le_refl _)) HM8.out
end
end Go.Proofs.YtkbopeoaoakfnaaDoor

namespace Go.Proofs.YtkbopeoaoakfnaaDoor
open Go.RowKit
section
variable {s : List UInt8} {n : Nat} {S : PS} {x : List (List UInt8) × List JV}
theorem valP_stop (h : S.fault ≠ none) : ∀ n, valP s n S = (.nil, S)
  | 0 => rfl
  | n + 1 => by unfold valP; rw [if_neg h]
theorem colon_stop (h : S.fault ≠ none) : (S.colon s).fault = S.fault := by
  unfold PS.colon
  rw [PS.blanks_fault]
  unfold PS.must
  split
  · rfl
  · rw [PS.fail_some (by rw [PS.blanks_fault]; exact h)]; rfl
theorem objOne_stop (h : (S.key s x.1).fault ≠ none) : (objOne s (valP s n) x S).2.fault = (S.key s x.1).fault := by
  unfold objOne
  have h1 := colon_stop (s := s) h
  rw [valP_stop (by rw [h1]; exact h)]
  exact h1
theorem objOne_text (h : (S.text s).fault ≠ none) : (objOne s (valP s n) x S).2.fault = (S.text s).fault := by
  have h1 : S.key s x.1 = S.text s := by unfold PS.key; rw [if_neg (fun h2 => h h2.1)]
  rw [objOne_stop (by rw [h1]; exact h), h1]
theorem objOne_dup (h : (S.text s).fault = none) (hk : S.textV s ∈ x.1) : (objOne s (valP s n) x S).2.fault = some ((S.at_ : Int), 2) := by
  have h1 : S.key s x.1 = (S.text s).fail S.at_ 2 := by unfold PS.key; rw [if_pos ⟨h, hk⟩]
  rw [objOne_stop (by rw [h1]; exact PS.fail_ne _ _ _), h1, PS.fail_none h]
theorem key_free (hk : S.textV s ∉ x.1) : S.key s x.1 = S.text s := by unfold PS.key; rw [if_neg (fun h2 => hk h2.2)]
theorem objOne_colon (h : (S.text s).fault = none) (hk : S.textV s ∉ x.1) (hc : ((S.text s).blanks s).sees s 58 = false) : (objOne s (valP s n) x S).2.fault = some ((((S.text s).blanks s).at_ : Int), 2) := by
  have h2 : (((S.text s).colon s)).fault = some ((((S.text s).blanks s).at_ : Int), 2) := by
    unfold PS.colon
    rw [PS.blanks_fault]
    unfold PS.must
    rw [if_neg (by rw [hc]; decide), PS.fail_none (by rw [PS.blanks_fault]; exact h)]
  unfold objOne
  rw [key_free hk, valP_stop (by rw [h2]; simp)]
  exact h2
theorem objOne_ok (hk : S.textV s ∉ x.1) (hc : ((S.text s).blanks s).sees s 58 = true) :
    objOne s (valP s n) x S = ((x.1 ++ [S.textV s], x.2 ++ [(valP s n ((((S.text s).blanks s).to (((S.text s).blanks s).at_ + 1)).blanks s)).1]), (valP s n ((((S.text s).blanks s).to (((S.text s).blanks s).at_ + 1)).blanks s)).2) := by
  have h2 : (S.text s).colon s = ((((S.text s).blanks s).to (((S.text s).blanks s).at_ + 1)).blanks s) := by
    unfold PS.colon
    congr 1
    unfold PS.must
    rw [if_pos hc]
    rfl
  unfold objOne
  rw [key_free hk, h2]
end
section
variable {w w' : World} {lo : Nat} {kv pv pv' : Value} {ks : List (List UInt8)} {uss : List (List Value)} {ps : List TR} {us : List Value} {t : TR}
theorem TT.part2 {n : Nat} (h : TT w lo kv pv ks uss ps) (hu : IsT w (fun k => lo ≤ k ∧ k < w.heap.size ∧ kv.ownBlock ≠ some k ∧ pv.ownBlock ≠ some k) us t) (hn : n = ps.length + 1)
    (ho : w'.ownsRow lo 35 5 pv' n (uss.flatten ++ us)) (hg : w.grownBy w' pv.ownBlock) (hb' : pv'.ownBlock = pv.ownBlock ∨ pv'.ownBlock = some w.heap.size) : TT w' lo kv pv' ks (uss ++ [us]) (ps ++ [t]) := by
  have hs2 := hg.size
  have hold : ∀ k, k < w.heap.size → pv.ownBlock ≠ some k → w'.heap[k]? = w.heap[k]? := fun k h1 h2 => hg.block k (by omega) (fun e => h2 e.symm)
  have hnew : ∀ k, k < w.heap.size → pv.ownBlock ≠ some k → pv'.ownBlock ≠ some k := fun k h1 h2 h3 => by
    rcases hb' with e | e
    · exact h2 (e ▸ h3)
    · rw [e] at h3; injection h3 with h3; omega
  refine ⟨own_keep h.keys (fun k e => hold k (h.klt k e).2 (h.apart k e)), by rw [List.flatten_append, List.length_append]; rw [hn] at ho; simpa using ho, by simp [h.len], fun k e e2 => ?_, fun i us' t' hx hy => ?_⟩
  · rcases hb' with e3 | e3
    · exact h.apart k e (e3 ▸ e2)
    · rw [e3] at e2; injection e2 with e2
      have := (h.klt k e).2
      omega
  · rcases Nat.lt_or_ge i ps.length with hi | hi
    · rw [List.getElem?_append_left (by rw [h.len]; exact hi)] at hx
      rw [List.getElem?_append_left hi] at hy
      exact (h.each i us' t' hx hy).keep (fun k hF => hold k hF.2.1 hF.2.2.2) (fun k hF => ⟨hF.1, by omega, hF.2.2.1, hnew k hF.2.1 hF.2.2.2⟩)
    · have hi2 : i = ps.length := by
        have := (List.getElem?_eq_some_iff.1 hy).1
        simp at this
        omega
      subst hi2
      rw [← h.len] at hx
      simp at hx hy
      subst hx hy
      exact hu.keep (fun k hF => hold k hF.2.1 hF.2.2.2) (fun k hF => ⟨hF.1, by omega, hF.2.2.1, hnew k hF.2.1 hF.2.2.2⟩)
end
end Go.Proofs.YtkbopeoaoakfnaaDoor
