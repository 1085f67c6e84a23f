/- The texts RR11 of this work, merged by wip/merge.py. No conditions. -/
import Derived.Test.YtkbopeoaoakfnaaDoorQRE
namespace Go.Proofs.YtkbopeoaoakfnaaDoor
open Go.RowKit
theorem ba_ne {a b : List UInt8} (h : ¬ a = b) : ((⟨a.toArray⟩ : ByteArray).toList == (⟨b.toArray⟩ : ByteArray).toList) = false := by
  rw [ByteArray.toList_eq, ByteArray.toList_eq]
  simpa using h
/-- What stays while the new key and the new part are put behind. -/
def OC (w : World) (g : Nat) (sb : ByteArray) (k : Nat) (dp : Int) (B xb : Nat) (kv pv : Value) (us : List Value) (w' : World) : Prop :=
  RA w g sb w' k dp false ∧ w'.heap[B]? = some (.cells #[.int .i64 0, .bool false, .string ⟨#[]⟩, .slice none 0 0, .slice none 0 0] 35 (0, 0)) ∧
    w'.heap[B + 1]? = some (.cells #[.int .i64 5, .bool false, .string ⟨#[]⟩, kv, pv] 35 (0, 0)) ∧ w'.heap[xb]? = some (.cells us.toArray 35 (0, 0))
theorem OC.below {w w1 w2 : World} {g : Nat} {sb : ByteArray} {k : Nat} {dp : Int} {B xb : Nat} {kv pv : Value} {us : List Value} (h : OC w g sb k dp B xb kv pv us w1) (hb : Below w1.heap.size w1 w2) : OC w g sb k dp B xb kv pv us w2 :=
  ⟨h.1.below hb, heap_below h.2.1 hb, heap_below h.2.2.1 hb, heap_below h.2.2.2 hb⟩
theorem OC.grown {w w1 w2 : World} {g : Nat} {sb : ByteArray} {k : Nat} {dp : Int} {B xb : Nat} {kv pv : Value} {us : List Value} {row : Value} (h : OC w g sb k dp B xb kv pv us w1) (hg : w1.grownBy w2 row.ownBlock) (h0 : ∀ q, row.ownBlock = some q → w.heap.size ≤ q ∧ q ≠ B ∧ q ≠ B + 1 ∧ q ≠ xb) : OC w g sb k dp B xb kv pv us w2 :=
  ⟨h.1.grown hg (fun q hq => (h0 q hq).1), own_other h.2.1 hg (fun e => (h0 _ e).2.1 rfl), own_other h.2.2.1 hg (fun e => (h0 _ e).2.2.1 rfl), own_other h.2.2.2 hg (fun e => (h0 _ e).2.2.2 rfl)⟩
/-- Where the two appends stand. -/
def OJ (C : World → Prop) (A5 : Value → Value → Value → Value → Value → Act) (B lo xb : Nat) (kv pv : Value) (ks : List (List UInt8)) (key : List UInt8) (KB : ByteArray) (uss : List (List Value)) (ps : List TR) (us : List Value) (t : TR) (d : Nat → Bool) (a : Act) (w : World) : Prop :=
  ∃ x81 x82 x86 x87 x88 kv' pv' : Value, a = A5 x81 x82 x86 x87 x88 ∧ Hid (C w ∧ TT w lo kv' pv' (if d 4 then ks ++ [key] else ks) (if d 9 then uss ++ [us] else uss) (if d 9 then ps ++ [t] else ps) ∧ (d 9 = false → IsT w (fun k => lo ≤ k ∧ k < w.heap.size ∧ kv'.ownBlock ≠ some k ∧ pv'.ownBlock ≠ some k) us t) ∧ xb < w.heap.size ∧ (d 4 = true → x82 = kv') ∧ (d 4 = false → kv' = kv) ∧ (d 9 = true → x87 = pv') ∧ (d 9 = false → pv' = pv) ∧
    (d 3 = true → d 4 = false → ∃ b, x81 = .slice (some ⟨b, 0, none⟩) 1 1 ∧ w.heap[b]? = some (.cells #[.string KB] 9 (0, 0))) ∧
    (d 8 = true → d 9 = false → ∃ b, x86 = .slice (some ⟨b, 0, none⟩) 1 1 ∧ w.heap[b]? = some (.cells us.toArray 35 (0, 0)) ∧ kv'.ownBlock ≠ some b) ∧ (d 10 = true → x88 = .pointer (some ⟨B + 1, 3, none⟩)) ∧ (d 9 = true → d 4 = true))
/-- The rounds of object: the tree at the second new block. -/
def ROI (w : World) (g : Nat) (sb : ByteArray) (s : List UInt8) (n : Nat) (d : Int) (M : (List (List UInt8) × List JV) × PS) (wr : World) : Prop :=
  ∃ (ks : List (List UInt8)) (l : List JV) (S : PS) (m : Nat) (kv pv : Value) (uss : List (List Value)), RA w g sb wr S.at_ S.depth false ∧ S.fault = none ∧ s.length - S.at_ < m ∧ s.length - S.at_ < n ∧ S.depth = d ∧ LR s 125 (objOne s (valP s n)) (decide (l = [])) m (ks, l) S = M ∧
    wr.heap[w.heap.size]? = some (.cells #[.int .i64 0, .bool false, .string ⟨#[]⟩, .slice none 0 0, .slice none 0 0] 35 (0, 0)) ∧
    wr.heap[w.heap.size + 1]? = some (.cells #[.int .i64 5, .bool false, .string ⟨#[]⟩, kv, pv] 35 (0, 0)) ∧ TT wr (w.heap.size + 2) kv pv ks uss (jtL l) ∧ l.length ≤ S.at_ ∧ ks.length = l.length
section
variable {w0 w w' : World} {g : Nat} {sb : ByteArray} {s : List UInt8} {st : PS}
set_option maxRecDepth 100000 in
set_option maxHeartbeats 1000000 in
theorem robject_at {n : Nat} (hV : RVAL s n) (hs : sb = ⟨s.toArray⟩) (h : RA w g sb w st.at_ st.depth false) (hf : st.fault = none) (hlt : st.at_ < s.length) (hn : s.length - st.at_ ≤ n) (hd0 : 0 ≤ st.depth) (hd1 : st.depth ≤ 16) :
    Calls Tryd.prog 65 #[.pointer (some ⟨g, 0, none⟩)] w (TrPost w w g sb (JV.obj (memP s 125 (objOne s (valP s n)) n ([], []) st).1.1 (memP s 125 (objOne s (valP s n)) n ([], []) st).1.2, (memP s 125 (objOne s (valP s n)) n ([], []) st).2)) := by
  obtain ⟨M, hM⟩ : ∃ M, M = memP s 125 (objOne s (valP s n)) n ([], []) st := ⟨_, rfl⟩
  rw [← hM]
  have HS := Lib.hid hs
  have HSZ : Hid (sb.size = s.length) := by show _ = _; rw [hs]; simp [ByteArray.size]
  have H := Lib.hid h
  have hglt := h.glt
  obtain ⟨B, hBe⟩ : ∃ B, B = w.heap.size := ⟨_, rfl⟩
  obtain ⟨w3, hw3⟩ : ∃ w3, w3 = (w.alloc (.cells #[.int .i64 0, .bool false, .string ⟨#[]⟩, .slice none 0 0, .slice none 0 0] 35)).alloc (.cells #[.int .i64 5, .bool false, .string ⟨#[]⟩, .slice none 0 0, .slice none 0 0] 35) := ⟨_, rfl⟩
  have h3 : Below B w w3 ∧ w3.heap[B]? = some (.cells #[.int .i64 0, .bool false, .string ⟨#[]⟩, .slice none 0 0, .slice none 0 0] 35 (0, 0)) ∧ w3.heap[B + 1]? = some (.cells #[.int .i64 5, .bool false, .string ⟨#[]⟩, .slice none 0 0, .slice none 0 0] 35 (0, 0)) ∧ w3.heap.size = B + 2 := by
    rw [hw3, hBe]
    exact ⟨((Below.refl _ _).alloc (Nat.le_refl _) _).alloc (by simp) _, heap_alloc2_old _ _ _, heap_alloc2_new _ _ _, by simp⟩
  have R3 := Lib.hid (h.below (by rw [← hBe]; exact h3.1))
  have H3 := Lib.hid h3
  have HBe := Lib.hid hBe
  have HV := Lib.hid hV
  have HN := Lib.hid hn
  have HLT := Lib.hid hlt
  clear hV hs h hlt hn h3
  by_cases hd : 16 < st.depth + 1
  · have HMF : Hid (M.2.fault = some ((st.at_ : Int), 6)) := by show _ = _; rw [hM]; exact memP_deep (open_deep hd hf)
    clear hM hf
    go_enter Tryd.func65, Tryd.ntmps65
    go_upto_region 2 with (fail)
    rw [← hw3, ← hBe]
    clear hw3 hBe
    go_wp2_with (go_at_call 88; go_must (refine (ropen_deep R3.out.self hd (by omega)).mono ?_; rintro e w4 ⟨rfl, h4⟩; have H4 := Lib.hid h4; have q1 := heap_turn H3.out.2.1 h4.turn (by have := HBe.out; omega); have q2 := heap_turn H3.out.2.2.1 h4.turn (by have := HBe.out; omega); have Q1 := Lib.hid q1; have Q2 := Lib.hid q2; clear h4; obtain ⟨z0, z1, z2, z3, z4, zf⟩ := row5 q1; obtain ⟨y0, y1, y2, y3, y4, yf⟩ := row5 q2; clear q1 q2))
    have h9 := set5_row (a0 := .int .i64 5) (a1 := .bool false) (a2 := .string ⟨#[]⟩) (a3 := .slice none 0 0) (a4 := .slice none 0 0) Q1.out
    refine bodyPost_ret (results_row_tmp rfl _ _ B _ _ _ _ rfl h9 Tryd.underlying35 rfl tree5) rfl ?_
    refine TrPost.done (ss := []) (lo := B + 2) (TT.nil w4 _) (by omega) (by rw [← HBe.out]; omega) ?_ (by intro h_; cases h_)
    exact RPost.no6 HMF.out ((RA.lift R3.out H4.out).free set5_turn (by rw [← HBe.out]; exact Nat.le_refl _))
  · have hfo : (st.open_ s).fault = none := by rw [open_flat hd]; exact hf
    have HM0 : Hid (M = LR s 125 (objOne s (valP s n)) true n ([], []) (st.open_ s)) := by show _ = _; rw [hM]; exact memP_LR hfo
    have HO : Hid ((st.open_ s).at_ = st.at_ + 1 + runB blankB (s.drop (st.at_ + 1)) ∧ (st.open_ s).depth = st.depth + 1) := by show _ ∧ _; rw [open_flat hd]; exact ⟨rfl, rfl⟩
    have HFO := Lib.hid hfo
    clear hM hf hfo
    go_enter Tryd.func65, Tryd.ntmps65
    go_upto_region 2 with (fail)
    rw [← hw3, ← hBe]
    clear hw3 hBe
    go_wp2_with (go_at_call 88; go_must (refine (ropen_flat R3.out.self HS.out hd0 hd HLT.out).mono ?_; rintro e w4 ⟨rfl, h4⟩; have H4 := Lib.hid h4; have q1 := heap_turn H3.out.2.1 h4.turn (by have := HBe.out; omega); have q2 := heap_turn H3.out.2.2.1 h4.turn (by have := HBe.out; omega); have Q1 := Lib.hid q1; have Q2 := Lib.hid q2; clear h4 q1 q2))
    go_loopw [] (fun wr => ROI w g sb s n (st.depth + 1) M wr) (fun wr => s.length - rdAt wr g)
    case atStart =>
      refine ⟨[], [], st.open_ s, n, _, _, [], ?_, HFO.out, ?_, ?_, HO.out.2, HM0.out.symm, ?_, ?_, TT.nil _ _, Nat.zero_le _, rfl⟩
      · rw [HO.out.1, HO.out.2]; exact RA.lift R3.out H4.out
      · rw [HO.out.1]; have h1_ := HLT.out; have h2_ := HN.out; omega
      · rw [HO.out.1]; have h1_ := HLT.out; have h2_ := HN.out; omega
      · rw [← HBe.out]; exact Q1.out
      · rw [← HBe.out]; exact Q2.out
    case round =>
      obtain ⟨ks, l, S, m, kv, pv, uss, hR, hSf, hm, hmn, hSd, hLR, hq1, hq2, hT, hll, hkl⟩ := hrel
      rw [← HBe.out] at hq1 hq2 hT
      obtain ⟨Ak, ck, Ap, cp, rfl, rfl⟩ := hT.form
      obtain ⟨np, hnp⟩ : ∃ np, np = (jtL l).length := ⟨_, rfl⟩
      obtain ⟨nk, hnk⟩ : ∃ nk, nk = ks.length := ⟨_, rfl⟩
      rw [← hnp, ← hnk] at hq2 hT
      have hnl : np = l.length := by rw [hnp, jtL_len]
      have hnkl : nk = l.length := by rw [hnk, hkl]
      obtain ⟨b, hb⟩ : ∃ b : UInt8, b = s.getD S.at_ 0 := ⟨_, rfl⟩
      have HB := Lib.hid hb.symm
      have hse := sees_getD (st := S) (s := s) (c := 125) (by decide)
      rw [← hb] at hse
      obtain ⟨c0, c1, c2, c3, fz⟩ := hR.cells
      obtain ⟨k0, k1, k2⟩ := hR.kI
      obtain ⟨y0, y1, y2, y3, y4, yf⟩ := row5 hq2
      have HR := Lib.hid hR
      have HSF := Lib.hid hSf
      have HMM := Lib.hid (And.intro hm hmn)
      have HSD := Lib.hid hSd
      have HLR := Lib.hid hLR.symm
      have HQ1 := Lib.hid hq1
      have HQ2 := Lib.hid hq2
      have HT := Lib.hid hT
      have HLL := Lib.hid hll
      have HNL := Lib.hid hnl
      have HNK := Lib.hid hnk
      have HKL := Lib.hid hnkl
      have HSE := Lib.hid hse
      have HGB : Hid (g < B) := by show _ < _; have := HBe.out; omega
      clear hR hSf hm hmn hLR hq1 hq2 hT hll hnl hnp hse hb hnk hkl hnkl
      by_cases hx : l = [] ∧ b = 125
      · obtain ⟨hx1, hx2⟩ := hx
        have hn0 : np = 0 := by rw [HNL.out, hx1]; rfl
        have hk0 : ks = [] := by
          have h1_ := HNK.out; have h2_ := HKL.out; rw [hx1] at h2_
          exact List.eq_nil_of_length_eq_zero (by simp at h2_; omega)
        have q93 : ((b.toNat : Int) != 125) = false := by rw [hx2]; rfl
        have HSEE : Hid (S.sees s 125 = true) := by show _ = _; rw [HSE.out, hx2]; rfl
        have HM9 : Hid (M = (([], []), (S.to (S.at_ + 1)).higher)) := by
          show _ = _
          rw [HLR.out]
          unfold LR
          rw [if_pos ⟨by rw [hx1]; rfl, HSEE.out⟩, PS.next_yes HSEE.out, hx1, hk0]
        have HLT2 : Hid (S.at_ + 1 ≤ sb.size) := by show _ ≤ _; rw [HSZ.out]; exact getD_lt (by rw [HB.out, hx2]; decide)
        have hd9 : S.depth ≤ 17 := by omega
        have hd8 : 1 ≤ S.depth := by omega
        have HX0 : Hid (∀ j : Nat, RA w g sb (((wr.drewN j).setCell ⟨g, 1, none⟩ (.int .i64 ((S.at_ : Int) + 1))).setCell ⟨g, 2, none⟩ (.int .i64 (S.depth - 1))) (S.at_ + 1) (S.depth - 1) false ∧ Turn g wr (((wr.drewN j).setCell ⟨g, 1, none⟩ (.int .i64 ((S.at_ : Int) + 1))).setCell ⟨g, 2, none⟩ (.int .i64 (S.depth - 1)))) :=
          fun j => ⟨(RA.putz (HR.out.drewN j) (by omega) HLT2.out).putD _, (((Turn.refl g wr).drewN j).setCell _).setCell _⟩
        subst hn0 hx1 hk0
        clear hx2 hSd y0 y1 y2 y3 yf
        go_upto_region 33 with (go_at_call 63; go_must (refine (here_q (by first | exact HR.out | exact HR.out.drewN _) HS.out (by rfl) HB.out).mono ?_; rintro e w5_ ⟨rfl, j, rfl⟩))
        clear y4
        have hX := HX0.out j
        obtain ⟨wx, hwx⟩ : ∃ wx, wx = (((wr.drewN j).setCell ⟨g, 1, none⟩ (.int .i64 ((S.at_ : Int) + 1))).setCell ⟨g, 2, none⟩ (.int .i64 (S.depth - 1))) := ⟨_, rfl⟩
        rw [← hwx] at hX ⊢
        clear hwx
        have HX := Lib.hid hX
        have q1 := heap_turn HQ1.out hX.2 (by have := HBe.out; omega)
        have q2 := heap_turn HQ2.out hX.2 (by have := HBe.out; omega)
        have Q1x := Lib.hid q1
        obtain ⟨z0, z1, z2, z3, z4, zf⟩ := row5 q1
        obtain ⟨y0, y1, y2, y3, y4, yf⟩ := row5 q2
        clear q1 q2 hX
        go_wp2
        have h9 := set5_row (a0 := .int .i64 5) (a1 := .bool false) (a2 := .string ⟨#[]⟩) (a3 := .slice Ak nk ck) (a4 := .slice Ap 0 cp) Q1x.out
        refine bodyPost_ret (results_row_tmp rfl _ _ B _ _ _ _ rfl h9 Tryd.underlying35 rfl tree5) rfl ?_
        rw [HM9.out]
        refine TrPost.done (ss := []) (lo := B + 2) (HT.out.turn HX.out.2 (by have := HBe.out; omega)) (by omega) (by rw [← HBe.out]; omega) ?_ (fun _ => rfl)
        exact RPost.yes HSF.out (HX.out.1.free set5_turn (by rw [← HBe.out]; exact Nat.le_refl _))
      · have hnotx : ¬ (decide (l = []) = true ∧ S.sees s 125 = true) := by
          rintro ⟨e1, e2⟩
          rw [HSE.out] at e2
          exact hx ⟨by simpa using e1, by simpa using e2⟩
        have HM9 : Hid (M = ((loopP s 125 (objOne s (valP s n)) m (ks, l) S).1, (loopP s 125 (objOne s (valP s n)) m (ks, l) S).2.higher)) := by
          show _ = _
          rw [HLR.out]
          unfold LR
          rw [if_neg hnotx]
        clear hnotx
        go_upto_region 4 with (fail)
        go_cut [23] from 15 to 107 (fun v w' => v = .bool true ∧ ∃ j, w' = wr.drewN j)
        case first =>
          by_cases h93 : b = 125
          · have q93 : ((b.toNat : Int) != 125) = false := by rw [h93]; rfl
            have hne : l ≠ [] := fun e => hx ⟨e, h93⟩
            have hp : 0 < np := by rw [HNL.out]; exact List.length_pos_iff.2 hne
            have dp : decide ((np : Int) > 0) = true := by simp; omega
            have hpI : (0 : Int) < (np : Int) := by omega
            clear hx h93 hne
            go_wp2_with (go_at_call 63; go_must (refine (here_q (by first | exact HR.out | exact HR.out.drewN _) HS.out (by rfl) HB.out).mono ?_; rintro e w5_ ⟨rfl, j, rfl⟩))
            go_meet
            case rel => exact ⟨rfl, _, rfl⟩
          · have q93 : ((b.toNat : Int) != 125) = true := by have h_ := ne_num h93; rw [bne, show ((b.toNat : Int) == 125) = false from h_]; rfl
            clear hx h93
            go_wp2_with (go_at_call 63; go_must (refine (here_q (by first | exact HR.out | exact HR.out.drewN _) HS.out (by rfl) HB.out).mono ?_; rintro e w5_ ⟨rfl, j, rfl⟩))
            go_meet
            case rel => exact ⟨rfl, _, rfl⟩
        case rest =>
          obtain ⟨rfl, j, rfl⟩ := hcut
          obtain ⟨m', rfl⟩ : ∃ m', m = m' + 1 := ⟨m - 1, by have := HMM.out.1; omega⟩
          obtain ⟨T, hTe⟩ : ∃ T, T = S.text s := ⟨_, rfl⟩
          obtain ⟨key, hkey⟩ : ∃ key, key = S.textV s := ⟨_, rfl⟩
          have hTle : S.at_ ≤ T.at_ := by rw [hTe]; exact PS.text_le S s
          have hTd : T.depth = S.depth := by rw [hTe]; exact PS.text_depth S s
          have HTX := Lib.hid (rtext_at (HR.out.drewN j).self HSF.out HS.out)
          rw [← hTe, ← hkey] at HTX
          have HTE := Lib.hid (And.intro hTe hkey)
          have HTL := Lib.hid (And.intro hTle hTd)
          clear c0 c2 c3 k0 k1 k2 y0 y1 y2 y3 y4 yf hx hTe hkey hTle hTd hglt
          by_cases hTf : T.fault = none
          · have HTF := Lib.hid hTf
            go_upto_region 9 with (go_at_call 66; go_must (refine HTX.out.mono ?_; rintro e w5 ⟨ok, KB, rfl, hP5, hok⟩; obtain ⟨rfl, h5⟩ := hP5.true_ HTF.out; have HKB := Lib.hid (hok rfl); have H5 := Lib.hid h5; clear hP5 hok h5))
            clear hTf HTX c1 fz
            have HTW : Hid (Turn g wr w5) := ((Turn.refl g wr).drewN j).trans H5.out.turn
            have R5 := Lib.hid (RA.lift (HR.out.drewN j) H5.out)
            have T5 := Lib.hid (HT.out.turn HTW.out (by have := HGB.out; omega))
            have q1 := heap_turn HQ1.out HTW.out (by have := HGB.out; omega)
            have q2 := heap_turn HQ2.out HTW.out (by have := HGB.out; omega)
            have Q1 := Lib.hid q1
            have Q2 := Lib.hid q2
            have y3 : w5.cell? ⟨B + 1, 3, none⟩ = some (.slice Ak nk ck) := (row5 q2).2.2.2.1
            have HSZB : Hid (B + 2 ≤ w5.heap.size) := by show _ ≤ _; have := lt_of_heap q2; omega
            clear q1 q2
            go_wp2_with fail
            go_loopw [39] (fun iv wr2 => ∃ i : Nat, i ≤ nk ∧ iv = .int .i64 (i : Int) ∧ wr2 = w5 ∧ Hid (∀ j, j < i → ks[j]? ≠ some key)) (fun iv _ => nk - (intOf iv).toNat)
            case atStart => exact ⟨0, Nat.zero_le _, rfl, rfl, fun j h => absurd h (Nat.not_lt_zero _)⟩
            case round =>
              obtain ⟨i, hi, rfl, hw2, HFREE⟩ := hrel
              have hw2 := hw2.symm
              subst hw2
              have hi0 : (0 : Int) ≤ (i : Int) := by omega
              by_cases hlt : i < nk
              · have hiI : (i : Int) < (nk : Int) := by omega
                have HNKS : Hid ((i : Int) + 1 ≤ 10000) := by show _ ≤ _; have h1_ := HLL.out; have h2_ := HKL.out; have h3_ := HR.out.kI; omega
                have hn9 := HNKS.out
                have hkk := strs_get ks i _ (List.getElem?_eq_getElem (by rw [← HNK.out]; exact hlt))
                have hrow := T5.out.keys
                rw [← HNK.out] at hrow
                obtain ⟨A2, c2, e2, _, hrd⟩ := own_rd hrow
                cases e2
                clear hrow
                obtain ⟨bk, offk, rfl, hbk, hck⟩ := hrd (by intro h0; rw [h0] at hkk; simp at hkk)
                have hcell := hck i _ hkk
                have hgi : ks[i]? = some (ks[i]'(by rw [← HNK.out]; exact hlt)) := List.getElem?_eq_getElem _
                generalize (ks[i]'(by rw [← HNK.out]; exact hlt)) = ki at hcell hkk hgi
                have HGI := Lib.hid hgi
                have HLI := Lib.hid hlt
                clear hkk hrd hck hbk hgi hlt
                by_cases heq : ki = key
                · have hcb : w5.cell? ⟨bk, offk + i, none⟩ = some (.string KB) := by rw [hcell, heq, HKB.out]
                  have teq : (KB.toList == KB.toList) = true := by simp
                  have HM8 : Hid (M.2.fault = some ((S.at_ : Int), 2)) := by
                    show _ = _
                    have hmem : S.textV s ∈ (ks, l).1 := by rw [← HTE.out.2, ← heq]; exact List.mem_of_getElem? HGI.out
                    have h1_ := objOne_dup (n := n) (x := (ks, l)) (S := S) (s := s) (by rw [← HTE.out.1]; exact HTF.out) hmem
                    rw [HM9.out]
                    show (loopP s 125 (objOne s (valP s n)) (m' + 1) (ks, l) S).2.fault = _
                    rw [loopP_bad1 (by rw [h1_]; simp), h1_]
                  obtain ⟨c0, c1, c2, c3, fz⟩ := R5.out.cells
                  clear hcell heq
                  go_upto_region 14 with (fail)
                  clear c0 c1 c2 c3 fz hcb y3
                  obtain ⟨wx, hwx⟩ : ∃ wx, wx = w5.setCell ⟨g, 1, none⟩ (.int .i64 (S.at_ : Int)) := ⟨_, rfl⟩
                  have RX : Hid (RA w g sb wx S.at_ T.depth false ∧ Turn g w5 wx) := by
                    show _ ∧ _
                    rw [hwx]
                    exact ⟨RA.putz R5.out rfl (by have := HR.out.kI; omega), (Turn.refl _ _).setCell _⟩
                  rw [← hwx]
                  clear hwx
                  have q1 := heap_turn Q1.out RX.out.2 (by have := HGB.out; omega)
                  have q2 := heap_turn Q2.out RX.out.2 (by have := HGB.out; omega)
                  have Q1x := Lib.hid q1
                  obtain ⟨z0, z1, z2, z3, z4, zf⟩ := row5 q1
                  obtain ⟨y0, y1, y2, y3, y4, yf⟩ := row5 q2
                  clear q1 q2
                  go_wp2
                  have h9 := set5_row (a0 := .int .i64 5) (a1 := .bool false) (a2 := .string ⟨#[]⟩) (a3 := .slice (some ⟨bk, offk, none⟩) nk ck) (a4 := .slice Ap np cp) Q1x.out
                  refine bodyPost_ret (results_row_tmp rfl _ _ B _ _ _ _ rfl h9 Tryd.underlying35 rfl tree5) rfl ?_
                  refine TrPost.done (ss := []) (lo := B + 2) (T5.out.turn RX.out.2 (by have := HGB.out; omega)) (by omega) (by rw [← HBe.out]; omega) ?_ (by intro h_; cases h_)
                  exact RPost.no (k := S.at_) HM8.out (RX.out.1.free set5_turn (by rw [← HBe.out]; exact Nat.le_refl _))
                · obtain ⟨XB, hXB⟩ : ∃ XB : ByteArray, XB = ⟨ki.toArray⟩ := ⟨_, rfl⟩
                  have teq : (XB.toList == KB.toList) = false := by
                    rw [HKB.out, hXB]
                    exact ba_ne heq
                  rw [← hXB] at hcell
                  clear hXB
                  have HNE := Lib.hid heq
                  clear heq
                  go_wp2
                  go_roundw
                  case rel =>
                    refine ⟨i + 1, HLI.out, by simp, (by first | rfl | trivial), fun j hj => ?_⟩
                    rcases Nat.lt_or_ge j i with h1 | h1
                    · exact HFREE.out j h1
                    · obtain rfl : j = i := by omega
                      rw [HGI.out]
                      intro e
                      exact HNE.out (Option.some.inj e)
                  case measure => have := HLI.out; simp [intOf]; omega
              · have hin : nk = i := by omega
                subst hin
                have hdl : decide ((nk : Int) < (nk : Int)) = false := by simp
                have HNO : Hid (S.textV s ∉ (ks, l).1) := by
                  rw [← HTE.out.2]
                  intro hmem
                  obtain ⟨j, hj, he⟩ := List.getElem_of_mem hmem
                  exact HFREE.out j (by rw [HNK.out]; exact hj) (by rw [List.getElem?_eq_getElem hj, he])
                clear hi hi0
                clear HFREE y3
                obtain ⟨Bk, hBk⟩ : ∃ Bk, Bk = T.blanks s := ⟨_, rfl⟩
                have hBa : Bk.at_ = T.at_ + runB blankB (s.drop T.at_) := by rw [hBk]; rfl
                have hBd : Bk.depth = S.depth := by rw [hBk, PS.blanks_depth]; exact HTL.out.2
                have hBf : Bk.fault = none := by rw [hBk, PS.blanks_fault]; exact HTF.out
                have HBK := Lib.hid (And.intro hBk (And.intro hBa (And.intro hBf hBd)))
                have HRB := Lib.hid (rblanks_at R5.out.self HS.out)
                rw [← hBa, HTL.out.2, ← hBd] at HRB
                clear hBk hBa hBf
                go_upto_region 17 with (go_at_call 34; go_must (refine HRB.out.mono ?_; rintro e w6 ⟨rfl, h6⟩; have H6 := Lib.hid h6; clear h6))
                have R6 := Lib.hid (RA.lift R5.out H6.out)
                have q1 := heap_turn Q1.out H6.out.turn (by have := HGB.out; omega)
                have q2 := heap_turn Q2.out H6.out.turn (by have := HGB.out; omega)
                have T6 := Lib.hid (T5.out.turn H6.out.turn (by have := HGB.out; omega))
                have Q16 := Lib.hid q1
                have Q26 := Lib.hid q2
                obtain ⟨c0, c1, c2, c3, fz⟩ := R6.out.cells
                obtain ⟨k0, k1, k2⟩ := R6.out.kI
                obtain ⟨b2, hb2⟩ : ∃ b : UInt8, b = s.getD Bk.at_ 0 := ⟨_, rfl⟩
                have HB2 := Lib.hid hb2.symm
                have hse1 := sees_getD (st := Bk) (s := s) (c := 58) (by decide)
                rw [← hb2] at hse1
                have HS1 := Lib.hid hse1
                clear hb2 hse1 HRB
                by_cases h58 : b2 = 58
                · have hsee : Bk.sees s 58 = true := by rw [HS1.out, h58]; rfl
                  have q58 : ((b2.toNat : Int) != 58) = false := by rw [h58]; rfl
                  have HLT2 : Hid (Bk.at_ + 1 ≤ sb.size) := by show _ ≤ _; rw [HSZ.out]; exact getD_lt (by rw [HB2.out, h58]; decide)
                  obtain ⟨K, hK⟩ : ∃ K, K = (Bk.to (Bk.at_ + 1)).blanks s := ⟨_, rfl⟩
                  obtain ⟨P, hP⟩ : ∃ P, P = valP s n K := ⟨_, rfl⟩
                  have HONE : Hid (objOne s (valP s n) (ks, l) S = ((ks ++ [key], l ++ [P.1]), P.2)) := by
                    show _ = _
                    have h1_ := objOne_ok (n := n) (x := (ks, l)) HNO.out (by rw [← HTE.out.1, ← HBK.out.1]; exact hsee)
                    rw [← HTE.out.1, ← HBK.out.1, ← HTE.out.2, ← hK, ← hP] at h1_
                    exact h1_
                  have hKa : K.at_ = Bk.at_ + 1 + runB blankB (s.drop (Bk.at_ + 1)) := by rw [hK]; rfl
                  have hKd : K.depth = S.depth := by rw [hK, PS.blanks_depth]; exact hBd
                  have hKf : K.fault = none := by rw [hK, PS.blanks_fault]; exact HBK.out.2.2.1
                  have hle : K.at_ ≤ P.2.at_ := by rw [hP]; exact valP_le s n K
                  have hdp : P.2.depth = S.depth := by rw [hP, valP_depth]; exact hKd
                  have HKK := Lib.hid (And.intro hKa (And.intro hKd hKf))
                  have HLE := Lib.hid (And.intro hle hdp)
                  have HX0 : Hid (∀ j : Nat, RA w g sb ((w6.drewN j).setCell ⟨g, 1, none⟩ (.int .i64 ((Bk.at_ : Int) + 1))) (Bk.at_ + 1) Bk.depth false ∧ Turn g w6 ((w6.drewN j).setCell ⟨g, 1, none⟩ (.int .i64 ((Bk.at_ : Int) + 1)))) :=
                    fun j => ⟨RA.putz (R6.out.drewN j) (by omega) HLT2.out, ((Turn.refl g w6).drewN j).setCell _⟩
                  have HKR : Hid (∀ wx, RA w g sb wx (Bk.at_ + 1 + runB blankB (s.drop (Bk.at_ + 1))) Bk.depth false → RA w g sb wx K.at_ K.depth false) := by
                    intro wx hx_
                    rw [HKK.out.1, HKK.out.2.1, ← HBK.out.2.2.2]
                    exact hx_
                  have HPE := Lib.hid hP
                  clear h58 hsee q1 q2 hK hKa hKd hKf hle hdp hP
                  go_upto_region 21 with (first
                    | (go_at_call 63; go_must (refine (here_q (by first | exact R6.out | exact R6.out.drewN _) HS.out (by rfl) HB2.out).mono ?_; rintro e w5_ ⟨rfl, j2, rfl⟩))
                    | (go_at_call 34; go_must (refine (rblanks_at (HX0.out _).1.self HS.out).mono ?_; rintro e w8 ⟨rfl, h8⟩; have R8 := Lib.hid (HKR.out _ (RA.lift (HX0.out _).1 h8)); have N8 := Lib.hid ((HX0.out _).2.trans h8.turn); clear h8)))
                  have T8 := Lib.hid (T6.out.turn N8.out (by have := HGB.out; omega))
                  have Q18 := Lib.hid (heap_turn Q16.out N8.out (by have := HGB.out; omega))
                  have Q28 := Lib.hid (heap_turn Q26.out N8.out (by have := HGB.out; omega))
                  have HCV := Lib.hid (HV.out g w8 K sb HS.out R8.out.self HKK.out.2.2 (by have h1_ := HMM.out.2; have h2_ := HTL.out.1; have h3_ := HBK.out.2.1; have h4_ := HKK.out.1; have h5_ := HLT2.out; have h6_ := HSZ.out; omega) (by rw [HKK.out.2.1]; omega) (by rw [HKK.out.2.1]; omega))
                  rw [← HPE.out] at HCV
                  clear c0 c1 c2 c3 fz k0 k1 k2 hBd HPE
                  by_cases hPf : P.2.fault = none
                  · have HPF := Lib.hid hPf
                    go_upto_region 24 with (go_at_call 35; go_must (refine HCV.out.mono ?_; rintro e w10 ⟨ok, us, t, rfl, hT5, hP5, hok⟩; obtain ⟨rfl, h5⟩ := hP5.true_ HPF.out; obtain rfl := hok rfl; obtain ⟨kx, bx, sx, Ax, nx, cx, Ay, ny, cy, rfl⟩ := hT5.form; have HA := Lib.hid h5; have HTA := Lib.hid hT5; clear hT5 hP5 hok h5))
                    clear hPf HCV
                    have hbase : Below w10.heap.size w10 (w10.alloc (.cells #[.int .i64 kx, .bool bx, .string ⟨sx.toArray⟩, .slice Ax nx cx, .slice Ay ny cy] 35)) := (Below.refl _ _).alloc (Nat.le_refl _) _
                    obtain ⟨w11, hw11⟩ : ∃ w11, w11 = w10.alloc (.cells #[.int .i64 kx, .bool bx, .string ⟨sx.toArray⟩, .slice Ax nx cx, .slice Ay ny cy] 35) := ⟨_, rfl⟩
                    obtain ⟨xb, hxb⟩ : ∃ xb, xb = w10.heap.size := ⟨_, rfl⟩
                    have hc11 : OC w g sb P.2.at_ S.depth B xb (.slice Ak nk ck) (.slice Ap np cp) [.int .i64 kx, .bool bx, .string ⟨sx.toArray⟩, .slice Ax nx cx, .slice Ay ny cy] w11 := by
                      rw [← hw11] at hbase
                      refine ⟨?_, heap_below (heap_turn Q18.out HA.out.turn (by have := HGB.out; omega)) hbase, heap_below (heap_turn Q28.out HA.out.turn (by have := HGB.out; omega)) hbase, by rw [hw11, hxb]; exact heap_alloc_new _ _⟩
                      have h_ := (RA.lift R8.out HA.out).below hbase
                      rw [HLE.out.2] at h_
                      exact h_
                    have hT11 : TT w11 (B + 2) (.slice Ak nk ck) (.slice Ap np cp) ks uss (jtL l) := (T8.out.turn HA.out.turn (by have := HGB.out; omega)).below (by rw [hw11]; exact hbase)
                    have hI11 : IsT w11 (fun k => B + 2 ≤ k ∧ k < w11.heap.size ∧ (Value.slice Ak nk ck).ownBlock ≠ some k ∧ (Value.slice Ap np cp).ownBlock ≠ some k) [.int .i64 kx, .bool bx, .string ⟨sx.toArray⟩, .slice Ax nx cx, .slice Ay ny cy] (jt P.1) := by
                      refine HTA.out.keep (fun q hq => by rw [hw11]; exact hbase.block q hq.2) (fun q hq => ⟨?_, ?_, fun e => ?_, fun e => ?_⟩)
                      · have h1_ := hq.1; have h2_ := lt_of_heap Q28.out; omega
                      · have h1_ := hbase.size; rw [← hw11] at h1_; omega
                      · have h1_ := (T8.out.klt q e).2; omega
                      · have h1_ := (T8.out.plt q e).2; omega
                    have hxlt : xb < w11.heap.size := by rw [hxb, hw11]; simp
                    have HXK : Hid (∀ q, (Value.slice Ak nk ck).ownBlock = some q → w.heap.size ≤ q ∧ q ≠ B ∧ q ≠ B + 1 ∧ q ≠ xb) := fun q e => by
                      have h1_ := T8.out.klt q e; have h2_ := HA.out.turn.size; have h3_ := HBe.out; exact ⟨by omega, by omega, by omega, by omega⟩
                    have HXP : Hid (∀ q, (Value.slice Ap np cp).ownBlock = some q → w.heap.size ≤ q ∧ q ≠ B ∧ q ≠ B + 1 ∧ q ≠ xb) := fun q e => by
                      have h1_ := T8.out.plt q e; have h2_ := HA.out.turn.size; have h3_ := HBe.out; exact ⟨by omega, by omega, by omega, by omega⟩
                    rw [← hw11, ← hxb]
                    have HC11 := Lib.hid hc11
                    have HT11 := Lib.hid hT11
                    have HI11 := Lib.hid hI11
                    have HXL := Lib.hid hxlt
                    have HNS : Hid (np + 1 ≤ 10000 ∧ nk + 1 ≤ 10000) := by show _ ∧ _; have h1_ := HNL.out; have h2_ := HLL.out; have h3_ := HR.out.kI; have h4_ := HKL.out; omega
                    clear hbase hw11 hxb hc11 hT11 hI11 hxlt hSd
                    obtain ⟨l0, hl0, lz0, lz1, lz2⟩ := info_parts treeinfo
                    obtain ⟨j0, hj0, jz0, jz1, jz2⟩ := info_parts strinfo
                    refine AnyCZ.start [11, 13] (OC w g sb P.2.at_ S.depth B xb (.slice Ak nk ck) (.slice Ap np cp) [.int .i64 kx, .bool bx, .string ⟨sx.toArray⟩, .slice Ax nx cx, .slice Ay ny cy]) (by kernel_rfl) rfl ?_
                    intro w12 hb12
                    have B12 := Lib.hid hb12
                    clear hb12
                    apply AnyCZ.take (i := 0) rfl (by kernel_rfl) (by kernel_rfl) rfl
                    · intro w' hC K hK
                      go_wp2
                      exact hK
                    · rfl
                    apply AnyCZ.take (i := 1) rfl (by kernel_rfl) (by kernel_rfl) rfl
                    · intro w' hC K hK
                      have cc := cell_of_row w' (B + 1) 3 _ _ _ hC.2.2.1
                      go_wp2
                      exact hK
                    · rfl
                    apply AnyCZ.take (i := 2) rfl (by kernel_rfl) (by kernel_rfl) rfl
                    · intro w' hC K hK
                      go_wp2
                      exact hK
                    · rfl
                    apply AnyCZ.take (i := 5) rfl (by kernel_rfl) (by kernel_rfl) rfl
                    · intro w' hC K hK
                      go_wp2
                      exact hK
                    · rfl
                    apply AnyCZ.take (i := 6) rfl (by kernel_rfl) (by kernel_rfl) rfl
                    · intro w' hC K hK
                      have cc := cell_of_row w' (B + 1) 4 _ _ _ hC.2.2.1
                      go_wp2
                      exact hK
                    · rfl
                    apply AnyCZ.take (i := 7) rfl (by kernel_rfl) (by kernel_rfl) rfl
                    · intro w' hC K hK
                      obtain ⟨x0, x1, x2, x3, x4, xf⟩ := row5 hC.2.2.2
                      go_wp2
                      exact hK
                    · rfl
                    refine AnyCZ.bunch [3, 4, 8, 9, 10] (OJ _ (fun x1 x2 x3 x4 x5 => { tmps := #[Value.pointer (some ⟨g, 0, none⟩), undef, Value.pointer (some ⟨B, 0, none⟩), u3, Value.pointer (some ⟨B + 1, 0, none⟩), Value.int IntKind.i64 (S.at_ : Int), Value.string KB, Value.bool true, u8, Value.pointer (some ⟨xb, 0, none⟩), Value.agg #[Value.int IntKind.i64 5, Value.bool false, Value.string ⟨#[]⟩, Value.slice none 0 0, Value.slice none 0 0], Value.pointer (some ⟨g, 0, none⟩), Value.bool true, Value.bool false, undef, u15, u16, u17, u18, u19, u20, u21, u22, Value.bool true, Value.pointer (some ⟨g, 0, none⟩), Value.pointer (some ⟨g, 0, none⟩), Value.pointer (some ⟨g, 1, none⟩), Value.int IntKind.i64 (S.at_ : Int), Value.tuple #[Value.string KB, Value.bool true], Value.pointer (some ⟨g, 0, none⟩), Value.tuple #[Value.string KB, Value.bool true], Value.string KB, Value.bool true, Value.bool true, Value.bool false, u35, Value.pointer (some ⟨B + 1, 3, none⟩), Value.slice Ak nk ck, Value.int IntKind.i64 (nk : Int), Value.int IntKind.i64 (nk : Int), Value.bool false, u41, u42, u43, u44, u45, u46, u47, u48, u49, u50, u51, u52, u53, u54, Value.pointer (some ⟨g, 0, none⟩), Value.tuple #[], Value.pointer (some ⟨g, 0, none⟩), Value.int IntKind.u8 (b2.toNat : Int), Value.bool false, u60, Value.pointer (some ⟨g, 0, none⟩), Value.pointer (some ⟨g, 0, none⟩), Value.pointer (some ⟨g, 1, none⟩), Value.int IntKind.i64 (Bk.at_ : Int), Value.int IntKind.i64 ((Bk.at_ : Int) + 1), Value.pointer (some ⟨g, 0, none⟩), Value.pointer (some ⟨g, 1, none⟩), Value.pointer (some ⟨g, 0, none⟩), Value.tuple #[], Value.tuple #[Value.agg #[Value.int IntKind.i64 kx, Value.bool bx, Value.string ⟨sx.toArray⟩, Value.slice Ax nx cx, Value.slice Ay ny cy], Value.bool true], Value.pointer (some ⟨g, 0, none⟩), Value.tuple #[Value.agg #[Value.int IntKind.i64 kx, Value.bool bx, Value.string ⟨sx.toArray⟩, Value.slice Ax nx cx, Value.slice Ay ny cy], Value.bool true], Value.agg #[Value.int IntKind.i64 kx, Value.bool bx, Value.string ⟨sx.toArray⟩, Value.slice Ax nx cx, Value.slice Ay ny cy], Value.bool true, Value.bool true, Value.bool false, u77, Value.pointer (some ⟨B + 1, 3, none⟩), Value.slice Ak nk ck, Value.string KB, x1, x2, Value.pointer (some ⟨B + 1, 4, none⟩), Value.slice Ap np cp, Value.agg #[Value.int IntKind.i64 kx, Value.bool bx, Value.string ⟨sx.toArray⟩, Value.slice Ax nx cx, Value.slice Ay ny cy], x3, x4, x5, u89, u90, u91, u92, u93, u94, u95, u96, u97, u98, u99, u100, u101, u102, u103, u104, u105, u106, u107, undef, undef, undef, undef, undef, undef, undef, undef, undef, undef, undef, undef, undef, undef, undef], defers := [] }) B (B + 2) xb (.slice Ak nk ck) (.slice Ap np cp) ks key KB uss (jtL l) [.int .i64 kx, .bool bx, .string ⟨sx.toArray⟩, .slice Ax nx cx, .slice Ay ny cy] (jt P.1)) (by decide) (by kernel_rfl) (by kernel_rfl) ?_ ?_ ?_ ⟨u81, u82, u86, u87, u88, .slice Ak nk ck, .slice Ap np cp, rfl, HC11.out.below B12.out, HT11.out.below B12.out, (fun _ => HI11.out.keep (fun q hq => B12.out.block q hq.2.1) (fun q hq => ⟨hq.1, Nat.lt_of_lt_of_le hq.2.1 B12.out.size, hq.2.2⟩)), Nat.lt_of_lt_of_le HXL.out B12.out.size, (fun h => by cases h), (fun _ => rfl), (fun h => by cases h), (fun _ => rfl), (fun h => by cases h), (fun h => by cases h), (fun h => by cases h), (fun h => by cases h)⟩
                    · rintro d a w' ⟨_, _, _, _, _, _, _, _, h⟩
                      exact h.out.1
                    · intro i hi oi hoi d a w' hJ hd hdep
                      obtain ⟨x81, x82, x86, x87, x88, kv', pv', rfl, h⟩ := hJ
                      obtain ⟨hC, hTT, hIs, hxl, e82, e4, e87, e9, b3, b8, p88, hmono⟩ := h.out
                      have HC := Lib.hid hC
                      have HTT := Lib.hid hTT
                      have HIS := Lib.hid hIs
                      have HXL2 := Lib.hid hxl
                      have HE := Lib.hid (And.intro e82 (And.intro e4 (And.intro e87 e9)))
                      have HB3 := Lib.hid b3
                      have HB8 := Lib.hid b8
                      have HPM := Lib.hid (And.intro p88 hmono)
                      clear h hC hTT hIs hxl e82 e4 e87 e9 b3 b8 p88 hmono
                      simp only [List.mem_cons, List.not_mem_nil, or_false] at hi
                      rcases hi with rfl | rfl | rfl | rfl | rfl
                      · obtain rfl := Option.some.inj (hoi.symm.trans rfl)
                        have hbA := (Below.refl w'.heap.size w').alloc (Nat.le_refl _) (.cells #[.string KB] 9)
                        have HBA := Lib.hid hbA
                        have HNEW := Lib.hid (heap_alloc_new w' (.cells #[.string KB] 9))
                        clear hbA
                        go_wp2
                        refine ⟨rfl, _, x82, x86, x87, x88, kv', pv', rfl, HC.out.below HBA.out, HTT.out.below HBA.out, fun e => (HIS.out e).keep (fun q hq => HBA.out.block q hq.2.1) (fun q hq => ⟨hq.1, Nat.lt_of_lt_of_le hq.2.1 HBA.out.size, hq.2.2⟩), Nat.lt_of_lt_of_le HXL2.out HBA.out.size, HE.out.1, HE.out.2.1, HE.out.2.2.1, HE.out.2.2.2, fun _ _ => ⟨_, rfl, HNEW.out⟩, fun e8 e9 => ?_, HPM.out.1, HPM.out.2⟩
                        obtain ⟨b, q1, q2, q3⟩ := HB8.out e8 e9
                        exact ⟨b, q1, heap_below q2 HBA.out, q3⟩
                      · obtain rfl := Option.some.inj (hoi.symm.trans rfl)
                        have hd9 : d 9 = false := by
                          cases h9 : d 9 with
                          | false => rfl
                          | true => have h_ := HPM.out.2 h9; rw [hd] at h_; cases h_
                        obtain ⟨b81, hx81, hblk⟩ := HB3.out (hdep 3 (by simp) (by kernel_rfl)) hd
                        have hkv := HE.out.2.1 hd
                        have hpv := HE.out.2.2.2 hd9
                        subst hkv hpv hx81
                        have hT := HTT.out
                        simp only [hd, hd9, Bool.false_eq_true, if_false] at hT
                        have hrow := hT.keys
                        rw [← HNK.out] at hrow
                        have HT0 := Lib.hid hT
                        have HROW := Lib.hid hrow
                        have HBLK := Lib.hid hblk
                        have HD := Lib.hid (And.intro hd hd9)
                        have HS0 : Hid (B + 2 ≤ w'.heap.size) := by show _ ≤ _; have := lt_of_heap HC.out.2.2.1; omega
                        clear hT hrow hblk hd hd9
                        refine app1 (cs := #[.string KB]) (n := nk) (s := 1) (base := B + 2) rfl rfl rfl rfl Tryd.underlying22 hj0 jz0 jz1 jz2 rfl (by decide) HROW.out HBLK.out rfl (by simp; rfl) (by have h_ := HNS.out.2; omega) (by have h_ := HNS.out.2; omega) HS0.out ?_
                        intro kv2 w5_ ho5 hg5 hb5
                        go_wp2
                        have hold : ∀ q, q < w'.heap.size → (Value.slice Ak nk ck).ownBlock ≠ some q → w5_.heap[q]? = w'.heap[q]? := fun q h1 h2 => hg5.block q h1 (fun e => h2 e.symm)
                        have hne2 : ∀ q, q < w'.heap.size → (Value.slice Ak nk ck).ownBlock ≠ some q → kv2.ownBlock ≠ some q := fun q h1 h2 e => by
                          rcases hb5 with e5 | e5
                          · exact h2 (e5 ▸ e)
                          · rw [e5] at e; injection e with e; omega
                        refine ⟨rfl, _, kv2, x86, x87, x88, kv2, .slice Ap np cp, rfl, HC.out.grown hg5 HXK.out, ?_, ?_, Nat.lt_of_lt_of_le HXL2.out hg5.size, fun _ => rfl, fun e => (by simp at e), HE.out.2.2.1, fun _ => rfl, fun _ e => (by simp at e), ?_, HPM.out.1, fun _ => rfl⟩
                        · have h1_ := HT0.out.key (key := key) (by rw [← HNK.out]) (by rw [HKB.out] at ho5; exact ho5) hg5 hb5
                          simpa [HD.out.2] using h1_
                        · intro _
                          exact (HIS.out HD.out.2).keep (fun q hq => hold q hq.2.1 hq.2.2.1) (fun q hq => ⟨hq.1, Nat.lt_of_lt_of_le hq.2.1 hg5.size, hne2 q hq.2.1 hq.2.2.1, hq.2.2.2⟩)
                        · intro e8 e9_
                          obtain ⟨b, q1, q2, q3⟩ := HB8.out e8 e9_
                          exact ⟨b, q1, (hold b (lt_of_heap q2) q3).trans q2, hne2 b (lt_of_heap q2) q3⟩
                      · obtain rfl := Option.some.inj (hoi.symm.trans rfl)
                        have hbA := (Below.refl w'.heap.size w').alloc (Nat.le_refl _) (.cells #[.int .i64 kx, .bool bx, .string ⟨sx.toArray⟩, .slice Ax nx cx, .slice Ay ny cy] 35)
                        have HBA := Lib.hid hbA
                        have HNEW := Lib.hid (heap_alloc_new w' (.cells #[.int .i64 kx, .bool bx, .string ⟨sx.toArray⟩, .slice Ax nx cx, .slice Ay ny cy] 35))
                        clear hbA
                        go_wp2
                        refine ⟨rfl, x81, x82, _, x87, x88, kv', pv', rfl, HC.out.below HBA.out, HTT.out.below HBA.out, fun e => (HIS.out e).keep (fun q hq => HBA.out.block q hq.2.1) (fun q hq => ⟨hq.1, Nat.lt_of_lt_of_le hq.2.1 HBA.out.size, hq.2.2⟩), Nat.lt_of_lt_of_le HXL2.out HBA.out.size, HE.out.1, HE.out.2.1, HE.out.2.2.1, HE.out.2.2.2, fun e8 e9_ => ?_, fun _ _ => ⟨_, rfl, HNEW.out, fun e => Nat.lt_irrefl _ (HTT.out.klt _ e).2⟩, HPM.out.1, HPM.out.2⟩
                        obtain ⟨b, q1, q2⟩ := HB3.out e8 e9_
                        exact ⟨b, q1, heap_below q2 HBA.out⟩
                      · obtain rfl := Option.some.inj (hoi.symm.trans rfl)
                        have h4 := hdep 4 (by simp) (by kernel_rfl)
                        obtain ⟨b86, hx86, hblk, hnb⟩ := HB8.out (hdep 8 (by simp) (by kernel_rfl)) hd
                        have hpv := HE.out.2.2.2 hd
                        subst hpv hx86
                        have hT := HTT.out
                        simp only [hd, h4, if_true, Bool.false_eq_true, if_false] at hT
                        have hrow := hT.parts
                        rw [jtL_len, ← HNL.out] at hrow
                        have HT0 := Lib.hid hT
                        have HROW := Lib.hid hrow
                        have HBLK := Lib.hid hblk
                        have HD := Lib.hid (And.intro hd h4)
                        have HS0 : Hid (B + 2 ≤ w'.heap.size) := by show _ ≤ _; have := lt_of_heap HC.out.2.2.1; omega
                        clear hT hrow hblk hd h4
                        refine app1 (cs := #[.int .i64 kx, .bool bx, .string ⟨sx.toArray⟩, .slice Ax nx cx, .slice Ay ny cy]) (n := np) (s := 5) (base := B + 2) rfl rfl rfl rfl Tryd.underlying33 hl0 lz0 lz1 lz2 rfl (by decide) HROW.out HBLK.out rfl (HTA.out.ones) (by have h_ := HNS.out.1; omega) (by have h_ := HNS.out.1; omega) HS0.out ?_
                        intro pv2 w5_ ho5 hg5 hb5
                        go_wp2
                        refine ⟨rfl, x81, x82, _, pv2, x88, kv', pv2, rfl, HC.out.grown hg5 HXP.out, ?_, fun e => (by simp at e), Nat.lt_of_lt_of_le HXL2.out hg5.size, HE.out.1, HE.out.2.1, fun _ => rfl, fun e => (by simp at e), fun e8 e9_ => ?_, fun _ e => (by simp at e), HPM.out.1, fun _ => HD.out.2⟩
                        · have h1_ := HT0.out.part2 (HIS.out HD.out.1) (by rw [jtL_len, ← HNL.out]) ho5 hg5 hb5
                          simpa [HD.out.2] using h1_
                        · have h_ : d 4 = false := e9_
                          rw [HD.out.2] at h_
                          cases h_
                      · obtain rfl := Option.some.inj (hoi.symm.trans rfl)
                        go_wp2
                        exact ⟨rfl, x81, x82, x86, x87, _, kv', pv', rfl, HC.out, HTT.out, HIS.out, HXL2.out, HE.out.1, HE.out.2.1, HE.out.2.2.1, HE.out.2.2.2, HB3.out, HB8.out, fun _ => rfl, HPM.out.2⟩
                    · intro d a w' hall hJ
                      obtain ⟨x81, x82, x86, x87, x88, kv', pv', rfl, h⟩ := hJ
                      have h4 := hall 4 (by simp)
                      have h9 := hall 9 (by simp)
                      have hC := h.out.1
                      have hT := h.out.2.1
                      simp only [h4, h9, if_true] at hT
                      have e82 := h.out.2.2.2.2.1 h4
                      have e87 := h.out.2.2.2.2.2.2.1 h9
                      have e88 := h.out.2.2.2.2.2.2.2.2.2.2.1 (hall 10 (by simp))
                      subst e82 e87 e88
                      rw [← jtL_snoc] at hT
                      obtain ⟨A8, c8, A9, c9, e8, e9⟩ := hT.form
                      obtain ⟨nk1, hnk1⟩ : ∃ nk1, nk1 = (ks ++ [key]).length := ⟨_, rfl⟩
                      obtain ⟨np1, hnp1⟩ : ∃ np1, np1 = (jtL (l ++ [P.1])).length := ⟨_, rfl⟩
                      rw [← hnk1] at e8
                      rw [← hnp1] at e9
                      subst e8 e9
                      have HN1 := Lib.hid (And.intro hnk1 hnp1)
                      have HC := Lib.hid hC
                      have HTT := Lib.hid hT
                      obtain ⟨y0, y1, y2, y3, y4, yf⟩ := row5 hC.2.2.1
                      clear h h4 h9 hC hT hnk1 hnp1 hall
                      apply AnyCZ.soloW (i := 11) rfl (by kernel_rfl) HC.out
                      go_wp2
                      refine ⟨rfl, ?_⟩
                      apply AnyW.pure (i := 12) rfl (by kernel_rfl) rfl rfl
                      · intro w' K hK
                        go_wp2
                        exact hK
                      · rfl
                      apply AnyW.solo (i := 13) rfl (by kernel_rfl)
                      go_wp2
                      refine ⟨rfl, ?_⟩
                      refine AnyW.done (by kernel_rfl) ?_
                      obtain ⟨w14, hw14⟩ : ∃ w14, w14 = (w'.setCell ⟨B + 1, 3, none⟩ (.slice A8 nk1 c8)).setCell ⟨B + 1, 4, none⟩ (.slice A9 np1 c9) := ⟨_, rfl⟩
                      have ht14 : Turn (B + 1) w' w14 := by rw [hw14]; exact ((Turn.refl _ _).setCell _).setCell _
                      have RX14 := Lib.hid (HC.out.1.free ht14 (by have := HBe.out; omega))
                      have HC14 : Hid (w14.heap[B + 1]? = some (.cells #[.int .i64 5, .bool false, .string ⟨#[]⟩, .slice A8 nk1 c8, .slice A9 np1 c9] 35 (0, 0))) := by
                        show _ = _
                        rw [hw14]
                        have e1 := heap_setCell_same w' (B + 1) 3 _ _ (.slice A8 nk1 c8) HC.out.2.2.1
                        exact heap_setCell_same _ (B + 1) 4 _ _ (.slice A9 np1 c9) e1
                      have HD14 := Lib.hid (heap_turn HC.out.2.1 ht14 (by omega))
                      have HT14 := Lib.hid (HTT.out.turn ht14 (by omega))
                      rw [← hw14]
                      clear hw14 ht14 y0 y1 y2 y3 y4 yf
                      obtain ⟨Bl, hBl⟩ : ∃ Bl, Bl = P.2.blanks s := ⟨_, rfl⟩
                      have hBa : Bl.at_ = P.2.at_ + runB blankB (s.drop P.2.at_) := by rw [hBl]; rfl
                      have hBd : Bl.depth = S.depth := by rw [hBl, PS.blanks_depth]; exact HLE.out.2
                      have hBf : Bl.fault = none := by rw [hBl, PS.blanks_fault]; exact HPF.out
                      have HBL := Lib.hid (And.intro hBl (And.intro hBa (And.intro hBf hBd)))
                      have HRB := Lib.hid (rblanks_at RX14.out.self HS.out)
                      rw [← hBa, ← hBd] at HRB
                      clear hBl hBa hBf
                      go_upto_region 26 with (go_at_call 34; go_must (refine HRB.out.mono ?_; rintro e w15 ⟨rfl, h15⟩; have H15 := Lib.hid h15; clear h15))
                      have RX15 : Hid (RA w g sb w14 P.2.at_ Bl.depth false) := by show RA _ _ _ _ _ _ _; rw [hBd]; exact RX14.out
                      have R15 := Lib.hid (RA.lift RX15.out H15.out)
                      have q1 := heap_turn HD14.out H15.out.turn (by have := HGB.out; omega)
                      have q2 := heap_turn HC14.out H15.out.turn (by have := HGB.out; omega)
                      have T15 := Lib.hid (HT14.out.turn H15.out.turn (by have := HGB.out; omega))
                      have Q115 := Lib.hid q1
                      have Q215 := Lib.hid q2
                      obtain ⟨c0, c1, c2, c3, fz⟩ := R15.out.cells
                      obtain ⟨k0, k1, k2⟩ := R15.out.kI
                      clear q1 q2 HRB
                      obtain ⟨b3, hb3⟩ : ∃ b : UInt8, b = s.getD Bl.at_ 0 := ⟨_, rfl⟩
                      have HB3_ := Lib.hid hb3.symm
                      have hse1 := sees_getD (st := Bl) (s := s) (c := 125) (by decide)
                      have hse2 := sees_getD (st := Bl) (s := s) (c := 44) (by decide)
                      rw [← hb3] at hse1 hse2
                      have HS3 := Lib.hid hse1
                      have HS4 := Lib.hid hse2
                      clear hb3 hse1 hse2
                      have hLF : (objOne s (valP s n) (ks, l) S).2.fault = none := by rw [HONE.out]; exact HPF.out
                      have hLB : (objOne s (valP s n) (ks, l) S).2.blanks s = Bl := by rw [HONE.out, HBL.out.1]
                      by_cases h93 : b3 = 125
                      · have hsee : Bl.sees s 125 = true := by rw [HS3.out, h93]; rfl
                        have HM8 : Hid (M = ((ks ++ [key], l ++ [P.1]), (Bl.to (Bl.at_ + 1)).higher)) := by
                          show _ = _
                          rw [HM9.out, loopP_end hLF (by rw [hLB]; exact hsee), hLB, HONE.out, PS.next_yes hsee]
                        have q93 : ((b3.toNat : Int) == 125) = true := by rw [h93]; rfl
                        have HLT3 : Hid (Bl.at_ + 1 ≤ sb.size) := by show _ ≤ _; rw [HSZ.out]; exact getD_lt (by rw [HB3_.out, h93]; decide)
                        have hd9 : Bl.depth ≤ 17 := by have := HSD.out; omega
                        have hd8 : 1 ≤ Bl.depth := by have := HSD.out; omega
                        have HX1 : Hid (∀ j : Nat, RA w g sb (((w15.drewN j).setCell ⟨g, 1, none⟩ (.int .i64 ((Bl.at_ : Int) + 1))).setCell ⟨g, 2, none⟩ (.int .i64 (Bl.depth - 1))) (Bl.at_ + 1) (Bl.depth - 1) false ∧ Turn g w15 (((w15.drewN j).setCell ⟨g, 1, none⟩ (.int .i64 ((Bl.at_ : Int) + 1))).setCell ⟨g, 2, none⟩ (.int .i64 (Bl.depth - 1)))) :=
                          fun j => ⟨(RA.putz (R15.out.drewN j) (by omega) HLT3.out).putD _, (((Turn.refl g w15).drewN j).setCell _).setCell _⟩
                        clear h93 hsee hLF hLB hBd
                        go_upto_region 33 with (go_at_call 63; go_must (refine (here_q (by first | exact R15.out | exact R15.out.drewN _) HS.out (by rfl) HB3_.out).mono ?_; rintro e w5_ ⟨rfl, j3, rfl⟩))
                        have hX := HX1.out j3
                        obtain ⟨wx, hwx⟩ : ∃ wx, wx = (((w15.drewN j3).setCell ⟨g, 1, none⟩ (.int .i64 ((Bl.at_ : Int) + 1))).setCell ⟨g, 2, none⟩ (.int .i64 (Bl.depth - 1))) := ⟨_, rfl⟩
                        rw [← hwx] at hX ⊢
                        clear hwx c0 c1 c2 c3 fz
                        have HX := Lib.hid hX
                        have q1 := heap_turn Q115.out hX.2 (by have := HGB.out; omega)
                        have q2 := heap_turn Q215.out hX.2 (by have := HGB.out; omega)
                        have Q1x := Lib.hid q1
                        obtain ⟨z0, z1, z2, z3, z4, zf⟩ := row5 q1
                        obtain ⟨y0, y1, y2, y3, y4, yf⟩ := row5 q2
                        clear q1 q2 hX
                        go_wp2
                        have h9 := set5_row (a0 := .int .i64 5) (a1 := .bool false) (a2 := .string ⟨#[]⟩) (a3 := .slice A8 nk1 c8) (a4 := .slice A9 np1 c9) Q1x.out
                        refine bodyPost_ret (results_row_tmp rfl _ _ B _ _ _ _ rfl h9 Tryd.underlying35 rfl tree5) rfl ?_
                        rw [HM8.out]
                        refine TrPost.done (ss := []) (lo := B + 2) (T15.out.turn HX.out.2 (by have := HGB.out; omega)) (by omega) (by rw [← HBe.out]; omega) ?_ (fun _ => rfl)
                        exact RPost.yes HBL.out.2.2.1 (HX.out.1.free set5_turn (by rw [← HBe.out]; exact Nat.le_refl _))
                      · have hsee : Bl.sees s 125 = false := by rw [HS3.out]; simp [h93]
                        have q93 : ((b3.toNat : Int) == 125) = false := ne_num h93
                        by_cases h44 : b3 = 44
                        · have hsee2 : Bl.sees s 44 = true := by rw [HS4.out, h44]; rfl
                          have HM8 : Hid (M = LR s 125 (objOne s (valP s n)) (decide (l ++ [P.1] = [])) m' (ks ++ [key], l ++ [P.1]) ((Bl.to (Bl.at_ + 1)).blanks s)) := by
                            show _ = _
                            rw [HM9.out, loopP_next hLF (by rw [hLB]; exact hsee) (by rw [hLB]; exact hsee2), hLB, HONE.out]
                            unfold LR
                            rw [if_neg (by simp)]
                          have q44 : ((b3.toNat : Int) != 44) = false := by rw [h44]; rfl
                          have HLT3 : Hid (Bl.at_ + 1 ≤ sb.size) := by show _ ≤ _; rw [HSZ.out]; exact getD_lt (by rw [HB3_.out, h44]; decide)
                          have HX1 : Hid (∀ j : Nat, RA w g sb ((w15.drewN j).setCell ⟨g, 1, none⟩ (.int .i64 ((Bl.at_ : Int) + 1))) (Bl.at_ + 1) Bl.depth false ∧ Turn g w15 ((w15.drewN j).setCell ⟨g, 1, none⟩ (.int .i64 ((Bl.at_ : Int) + 1)))) :=
                            fun j => ⟨RA.putz (R15.out.drewN j) (by omega) HLT3.out, ((Turn.refl g w15).drewN j).setCell _⟩
                          clear h44 h93 hsee hsee2 hLF hLB
                          go_wp2_with (first
                            | (go_at_call 63; go_must (refine (here_q (by first | exact R15.out | exact R15.out.drewN _) HS.out (by rfl) HB3_.out).mono ?_; rintro e w5_ ⟨rfl, j3, rfl⟩))
                            | (go_at_call 34; go_must (refine (rblanks_at (HX1.out _).1.self HS.out).mono ?_; rintro e w16 ⟨rfl, h16⟩; have R16 := Lib.hid (RA.lift (HX1.out _).1 h16); have N16 := Lib.hid ((HX1.out _).2.trans h16.turn); clear h16)))
                          go_roundw
                          case rel =>
                            refine ⟨ks ++ [key], l ++ [P.1], (Bl.to (Bl.at_ + 1)).blanks s, m', .slice A8 nk1 c8, .slice A9 np1 c9, uss ++ [[.int .i64 kx, .bool bx, .string ⟨sx.toArray⟩, .slice Ax nx cx, .slice Ay ny cy]], R16.out, HBL.out.2.2.1, ?_, ?_, ?_, HM8.out.symm, ?_, ?_, ?_, ?_, ?_⟩
                            · show s.length - (Bl.at_ + 1 + runB blankB (s.drop (Bl.at_ + 1))) < m'
                              have h1_ := HMM.out; have h2_ := HLE.out.1; have h3_ := HBL.out.2.1; have h4_ := HLT3.out; have h5_ := HSZ.out; have h6_ := HTL.out.1; have h7_ := HBK.out.2.1; have h8_ := HKK.out.1; omega
                            · show s.length - (Bl.at_ + 1 + runB blankB (s.drop (Bl.at_ + 1))) < n
                              have h1_ := HMM.out; have h2_ := HLE.out.1; have h3_ := HBL.out.2.1; have h4_ := HLT3.out; have h5_ := HSZ.out; have h6_ := HTL.out.1; have h7_ := HBK.out.2.1; have h8_ := HKK.out.1; omega
                            · show Bl.depth = _
                              rw [hBd]; exact HSD.out
                            · rw [← HBe.out]; exact heap_turn Q115.out N16.out (by have := HGB.out; omega)
                            · rw [← HBe.out]; exact heap_turn Q215.out N16.out (by have := HGB.out; omega)
                            · rw [← HBe.out]; exact T15.out.turn N16.out (by have := HGB.out; omega)
                            · show (l ++ [P.1]).length ≤ Bl.at_ + 1 + runB blankB (s.drop (Bl.at_ + 1))
                              rw [List.length_append]
                              have h1_ := HLL.out; have h2_ := HLE.out.1; have h3_ := HBL.out.2.1; have h6_ := HTL.out.1; have h7_ := HBK.out.2.1; have h8_ := HKK.out.1
                              simp
                              omega
                            · rw [List.length_append, List.length_append]
                              have h1_ := HKL.out; have h2_ := HNK.out
                              simp
                              omega
                          case measure =>
                            rw [R16.out.rd, HR.out.rd]
                            show s.length - (Bl.at_ + 1 + runB blankB (s.drop (Bl.at_ + 1))) < _
                            have h2_ := HLE.out.1; have h3_ := HBL.out.2.1; have h4_ := HLT3.out; have h5_ := HSZ.out; have h6_ := HTL.out.1; have h7_ := HBK.out.2.1; have h8_ := HKK.out.1; omega
                        · have hsee2 : Bl.sees s 44 = false := by rw [HS4.out]; simp [h44]
                          have HM8 : Hid (M.2.fault = some ((Bl.at_ : Int), 2)) := by
                            show _ = _
                            rw [HM9.out]
                            show (loopP s 125 (objOne s (valP s n)) (m' + 1) (ks, l) S).2.fault = _
                            rw [loopP_bad2 hLF (by rw [hLB]; exact hsee) (by rw [hLB]; exact hsee2), hLB]
                          have q44 : ((b3.toNat : Int) != 44) = true := by have h_ := ne_num h44; rw [bne, show ((b3.toNat : Int) == 44) = false from h_]; rfl
                          obtain ⟨z0, z1, z2, z3, z4, zf⟩ := row5 Q115.out
                          obtain ⟨y0, y1, y2, y3, y4, yf⟩ := row5 Q215.out
                          clear h44 h93 hsee hsee2 hLF hLB
                          go_wp2_with (go_at_call 63; go_must (refine (here_q (by first | exact R15.out | exact R15.out.drewN _) HS.out (by rfl) HB3_.out).mono ?_; rintro e w5_ ⟨rfl, j3, rfl⟩))
                          have h9 := fun i => set5_row (w := w15.drewN i) (a0 := .int .i64 5) (a1 := .bool false) (a2 := .string ⟨#[]⟩) (a3 := .slice A8 nk1 c8) (a4 := .slice A9 np1 c9) Q115.out
                          refine bodyPost_ret (results_row_tmp rfl _ _ B _ _ _ _ rfl (h9 _) Tryd.underlying35 rfl tree5) rfl ?_
                          refine TrPost.done (ss := []) (lo := B + 2) (T15.out.turn ((Turn.refl g w15).drewN _) (by have := HGB.out; omega)) (by omega) (by rw [← HBe.out]; omega) ?_ (by intro h_; cases h_)
                          exact RPost.no (d' := Bl.depth) HM8.out ((R15.out.drewN _).free set5_turn (by rw [← HBe.out]; exact Nat.le_refl _))
                  · have HPF := Lib.hid hPf
                    have HM8 : Hid (M.2.fault = P.2.fault) := by
                      show _ = _
                      rw [HM9.out]
                      show (loopP s 125 (objOne s (valP s n)) (m' + 1) (ks, l) S).2.fault = _
                      rw [loopP_bad1 (by rw [HONE.out]; exact hPf), HONE.out]
                    clear hPf
                    go_upto_region 23 with (go_at_call 35; go_must (refine HCV.out.mono ?_; rintro e w10 ⟨ok, us, t, rfl, hT5, hP5, hok⟩; obtain ⟨rfl, kf, ef, df, e1, e2, h5⟩ := hP5.false_ HPF.out; obtain ⟨kx, bx, sx, Ax, nx, cx, Ay, ny, cy, rfl⟩ := hT5.form; have HA := Lib.hid h5; have E5 := Lib.hid (And.intro e1 e2); clear hT5 hP5 hok h5 e1 e2))
                    clear HCV
                    obtain ⟨w11, hw11⟩ : ∃ w11, w11 = w10.alloc (.cells #[.int .i64 kx, .bool bx, .string ⟨sx.toArray⟩, .slice Ax nx cx, .slice Ay ny cy] 35) := ⟨_, rfl⟩
                    have hb11 : Below w10.heap.size w10 w11 := by rw [hw11]; exact (Below.refl _ _).alloc (Nat.le_refl _) _
                    rw [← hw11]
                    have T11 := Lib.hid ((T8.out.turn HA.out.turn (by have := HGB.out; omega)).below hb11)
                    have q2 := heap_below (heap_turn Q28.out HA.out.turn (by have := HGB.out; omega)) hb11
                    have q1 := heap_below (heap_turn Q18.out HA.out.turn (by have := HGB.out; omega)) hb11
                    have Q1x := Lib.hid q1
                    have RX := Lib.hid ((RA.lift R8.out HA.out).below hb11)
                    obtain ⟨z0, z1, z2, z3, z4, zf⟩ := row5 q1
                    obtain ⟨y0, y1, y2, y3, y4, yf⟩ := row5 q2
                    clear hw11 hb11 q1 q2
                    go_wp2
                    have h9 := set5_row (a0 := .int .i64 5) (a1 := .bool false) (a2 := .string ⟨#[]⟩) (a3 := .slice Ak nk ck) (a4 := .slice Ap np cp) Q1x.out
                    refine bodyPost_ret (results_row_tmp rfl _ _ B _ _ _ _ rfl h9 Tryd.underlying35 rfl tree5) rfl ?_
                    refine TrPost.done (ss := []) (lo := B + 2) T11.out (by omega) (by rw [← HBe.out]; omega) ?_ (by intro h_; cases h_)
                    exact RPost.fault_eq E5.out.1 E5.out.2 (RX.out.free set5_turn (by rw [← HBe.out]; exact Nat.le_refl _)) HM8.out
                · have hsee : Bk.sees s 58 = false := by rw [HS1.out]; simp [h58]
                  have q58 : ((b2.toNat : Int) != 58) = true := by have h_ := ne_num h58; rw [bne, show ((b2.toNat : Int) == 58) = false from h_]; rfl
                  have HM8 : Hid (M.2.fault = some ((Bk.at_ : Int), 2)) := by
                    show _ = _
                    have h1_ := objOne_colon (n := n) (x := (ks, l)) (S := S) (s := s) (by rw [← HTE.out.1]; exact HTF.out) HNO.out (by rw [← HTE.out.1, ← HBK.out.1]; exact hsee)
                    rw [HM9.out]
                    show (loopP s 125 (objOne s (valP s n)) (m' + 1) (ks, l) S).2.fault = _
                    rw [loopP_bad1 (by rw [h1_]; simp), h1_, ← HTE.out.1, ← HBK.out.1]
                  obtain ⟨z0, z1, z2, z3, z4, zf⟩ := row5 q1
                  obtain ⟨y0, y1, y2, y3, y4, yf⟩ := row5 q2
                  clear h58 hsee q1 q2 c1 c2 c3
                  go_wp2_with (go_at_call 63; go_must (refine (here_q (by first | exact R6.out | exact R6.out.drewN _) HS.out (by rfl) HB2.out).mono ?_; rintro e w5_ ⟨rfl, j2, rfl⟩))
                  have h9 := fun i => set5_row (w := w6.drewN i) (a0 := .int .i64 5) (a1 := .bool false) (a2 := .string ⟨#[]⟩) (a3 := .slice Ak nk ck) (a4 := .slice Ap np cp) Q16.out
                  refine bodyPost_ret (results_row_tmp rfl _ _ B _ _ _ _ rfl (h9 _) Tryd.underlying35 rfl tree5) rfl ?_
                  refine TrPost.done (ss := []) (lo := B + 2) (T6.out.turn ((Turn.refl g w6).drewN _) (by have := HGB.out; omega)) (by omega) (by rw [← HBe.out]; omega) ?_ (by intro h_; cases h_)
                  exact RPost.no (d' := Bk.depth) HM8.out ((R6.out.drewN _).free set5_turn (by rw [← HBe.out]; exact Nat.le_refl _))
          · have HTF := Lib.hid hTf
            have HM8 : Hid (M.2.fault = T.fault) := by
              show _ = _
              have h1_ := objOne_text (n := n) (x := (ks, l)) (S := S) (s := s) (by rw [← HTE.out.1]; exact hTf)
              rw [HM9.out]
              show (loopP s 125 (objOne s (valP s n)) (m' + 1) (ks, l) S).2.fault = _
              rw [loopP_bad1 (by rw [h1_, ← HTE.out.1]; exact hTf), h1_, ← HTE.out.1]
            clear hTf
            go_upto_region 8 with (go_at_call 66; go_must (refine HTX.out.mono ?_; rintro e w5 ⟨ok, KB, rfl, hP5, hok⟩; obtain ⟨rfl, kf, ef, df, e1, e2, h5⟩ := hP5.false_ HTF.out; have H5 := Lib.hid h5; have E5 := Lib.hid (And.intro e1 e2); clear hP5 hok h5 e1 e2))
            clear HTX c1 fz
            have HTW : Hid (Turn g wr w5) := ((Turn.refl g wr).drewN j).trans H5.out.turn
            have R5 := Lib.hid (RA.lift (HR.out.drewN j) H5.out)
            have T5 := Lib.hid (HT.out.turn HTW.out (by have := HGB.out; omega))
            have q1 := heap_turn HQ1.out HTW.out (by have := HGB.out; omega)
            have q2 := heap_turn HQ2.out HTW.out (by have := HGB.out; omega)
            have Q1x := Lib.hid q1
            obtain ⟨z0, z1, z2, z3, z4, zf⟩ := row5 q1
            obtain ⟨y0, y1, y2, y3, y4, yf⟩ := row5 q2
            clear q1 q2
            go_wp2
            have h9 := set5_row (a0 := .int .i64 5) (a1 := .bool false) (a2 := .string ⟨#[]⟩) (a3 := .slice Ak nk ck) (a4 := .slice Ap np cp) Q1x.out
            refine bodyPost_ret (results_row_tmp rfl _ _ B _ _ _ _ rfl h9 Tryd.underlying35 rfl tree5) rfl ?_
            refine TrPost.done (ss := []) (lo := B + 2) T5.out (by omega) (by rw [← HBe.out]; omega) ?_ (by intro h_; cases h_)
            exact RPost.fault_eq E5.out.1 E5.out.2 (R5.out.free set5_turn (by rw [← HBe.out]; exact Nat.le_refl _)) HM8.out
end
end Go.Proofs.YtkbopeoaoakfnaaDoor
