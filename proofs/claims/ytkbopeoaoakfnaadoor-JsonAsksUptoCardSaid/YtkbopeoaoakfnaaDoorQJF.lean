/- The texts J7 of this work, merged by wip/merge.py. No conditions. -/
import Derived.Test.YtkbopeoaoakfnaaDoorQJE
namespace Go.Proofs.YtkbopeoaoakfnaaDoor
open Go.RowKit
theorem PS.open_ok {st : PS} {s : List UInt8} (h : (st.open_ s).fault = none) : st.fault = none ∧ st.depth + 1 ≤ 16 := by
  have h1 : st.openA.fault = none := h
  unfold PS.openA at h1
  split at h1
  · exact absurd h1 (PS.fail_ne _ _ _)
  · exact ⟨h1, by omega⟩
/-- How far members may still go. -/
def memMeas (g : Nat) (v : Value) (w : World) : Nat :=
  match v, w.cell? ⟨g, 3, none⟩, w.cell? ⟨g, 1, none⟩ with
  | .bool true, some (.pointer none), some (.int _ a) => 10001 - a.toNat
  | _, _, _ => 0
section
variable {w0 w w' : World} {base g : Nat} {s : List UInt8} {st : PS}
theorem memMeas_run (h : At w0 base g s w st) (hf : st.fault = none) : memMeas g (.bool true) w = 10001 - st.at_ := by
  unfold memMeas
  rw [h.ps.none_ hf, h.cells.2.1]
  simp
theorem memMeas_off (w : World) : memMeas g (.bool false) w = 0 := by unfold memMeas; rfl
theorem memMeas_fail (h : At w0 base g s w st) (hf : st.fault ≠ none) (v : Value) : memMeas g v w = 0 := by
  obtain ⟨fp, h3, h4⟩ := h.fault
  unfold memMeas
  rw [h3]
  cases fp with
  | none => simp at h4; exact absurd h4 hf
  | some a =>
    split
    · rename_i h1 _; cases h1
    · rfl
theorem At.self (h : At w0 base g s w st) : At w base g s w st := At.start h.ps h.basew h.len8
theorem must_lit (c : UInt8) (n : Int) (hn : (c.toNat : Int) = n) (h : At w0 base g s w st) : Calls Tryd.prog 81 #[.pointer (some ⟨g, 0, none⟩), .int .u8 n] w fun x w' => x = .returned (.tuple #[]) ∧ At w0 base g s w' (st.must s c) := by
  subst hn; exact must_at h c
theorem lift_at {f : Nat} {args : Array Value} {st' : PS} {Q : Ending → Prop} (h : At w0 base g s w st) (hc : Calls Tryd.prog f args w fun e w' => Q e ∧ At w base g s w' st') : Calls Tryd.prog f args w fun e w' => Q e ∧ At w0 base g s w' st' ∧ Turn g w w' :=
  hc.mono fun _ _ ⟨h1, h2⟩ => ⟨h1, h.step h2.ps h2.turn, h2.turn⟩
/-- Between two rounds of members. -/
def MemI {α : Type} (w0 : World) (base g : Nat) (s : List UInt8) (e : UInt8) (one : α → PS → α × PS) (I : α → World → Prop) (len : α → Nat) (N : Nat) (dp : Int) (fin : α × PS) (v : Value) (w : World) : Prop :=
  ∃ (m : Bool) (x : α) (sk : PS), v = .bool m ∧ At w0 base g s w sk ∧ I x w ∧ sk.depth = dp ∧
    ((m = true ∧ sk.fault = none ∧ dp ≤ 16 ∧ len x ≤ sk.at_ ∧ s.length - sk.at_ < N ∧ ∃ k, s.length - sk.at_ < k ∧ loopP s e one k x sk = fin) ∨ ((m = false ∨ sk.fault ≠ none) ∧ (x, sk) = fin))
set_option maxRecDepth 100000 in
set_option maxHeartbeats 800000 in
theorem members_list {α : Type} (e : UInt8) (one : α → PS → α × PS) (I : α → World → Prop) (caps : Array Value) (x0 : α) (n : Nat) (N : Nat) (len : α → Nat) (hlen0 : len x0 = 0) (hlen : ∀ x st, len (one x st).1 ≤ len x + 1)
    (hI : ∀ x w w', I x w → Turn g w w' → I x w') (hle : ∀ x st, st.at_ ≤ (one x st).2.at_) (hdp : ∀ x st, (one x st).2.depth = st.depth)
    (hone : ∀ x w' st', At w0 base g s w' st' → I x w' → st'.fault = none → len x ≤ st'.at_ → s.length - st'.at_ < N → 0 ≤ st'.depth → st'.depth ≤ 16 → Calls Tryd.prog 82 caps w' (fun en w'' => en = .returned (.tuple #[]) ∧ At w0 base g s w'' (one x st').2 ∧ I (one x st').1 w''))
    (h : At w0 base g s w st) (h0 : I x0 w) (hlt : st.at_ < s.length) (hN : s.length - st.at_ ≤ N) (hNn : N ≤ n) (hd0 : 0 ≤ st.depth) (hd1 : st.depth ≤ 16) (E : Int) (hE : E = (e.toNat : Int)) :
    Calls Tryd.prog 79 #[.pointer (some ⟨g, 0, none⟩), .int .u8 E, .func (.func 82) #[] caps] w (fun en w' => en = .returned (.tuple #[]) ∧ At w0 base g s w' (memP s e one n x0 st).2 ∧ I (memP s e one n x0 st).1 w') := by
  subst hE
  have HI := Lib.hid hI
  have HL0 := Lib.hid hlen0
  have HLE1 := Lib.hid hlen
  have HLE := Lib.hid hle
  have HDP := Lib.hid hdp
  have HONE := Lib.hid hone
  have HNN := Lib.hid (And.intro hN hNn)
  have h0' := Lib.hid h0
  have HD := Lib.hid (And.intro hd0 hd1)
  obtain ⟨O, hO⟩ : ∃ O, O = st.open_ s := ⟨_, rfl⟩
  have hOd : O.depth = st.depth + 1 := by rw [hO]; exact PS.open_depth st s
  have HOD := Lib.hid hOd
  have HOA := Lib.hid (show st.at_ + 1 ≤ O.at_ by rw [hO]; exact PS.open_le st s)
  have HOK := Lib.hid (show O.fault = none → st.fault = none ∧ st.depth + 1 ≤ 16 by rw [hO]; exact PS.open_ok)
  obtain ⟨fin, hfin⟩ : ∃ fin, fin = (if O.sees s e then (x0, O.next s e) else if O.fault = none then loopP s e one n x0 O else (x0, O)) := ⟨_, rfl⟩
  have HFIN : Hid (memP s e one n x0 st = (fin.1, fin.2.higher)) := by
    show _ = _
    unfold memP
    rw [← hO, hfin]
    split
    · rfl
    · split <;> rfl
  have HF2 := Lib.hid hfin
  have HO := Lib.hid hO
  have hopen := open_at h.self hd0 (by omega) hlt
  rw [← hO] at hopen
  have HOPS := Lib.hid hopen
  have HW := Lib.hid h
  have HLT := Lib.hid hlt
  clear hlen0 hlen hI hle hdp hone hN hNn h0 hd0 hd1 hO hOd hfin hopen hlt h
  go_enter Tryd.func79, Tryd.ntmps79
  go_upto_block 0 with (first
    | (go_at_call 105; go_must (refine (lift_at HW.out HOPS.out).mono ?_; rintro en w1 ⟨rfl, h1, t1⟩; have i1 := HI.out _ _ _ h0'.out t1))
    | (go_at_call 86; go_must (refine (lift_at h1 (next_at h1.self e)).mono ?_; rintro en w2 ⟨rfl, h2, t2⟩; have i2 := HI.out _ _ _ i1 t2)))
  clear h1 t1 i1 t2
  have hm : MemI w0 base g s e one I len N (st.depth + 1) fin (.bool (!O.sees s e)) w2 := by
    refine ⟨_, x0, _, rfl, h2, i2, by rw [PS.next_depth]; exact HOD.out, ?_⟩
    by_cases hs : O.sees s e = true
    · exact .inr ⟨.inl (by simp [hs]), by rw [HF2.out, if_pos hs]⟩
    · have hs' : O.sees s e = false := by simpa using hs
      rw [PS.next_no hs']
      by_cases hf : O.fault = none
      · have h_ := HNN.out
        have h2_ := HOA.out
        have h3_ := HLT.out
        exact .inl ⟨by simp [hs'], hf, (HOK.out hf).2, by rw [HL0.out]; exact Nat.zero_le _, by omega, n, by omega, by rw [HF2.out, if_neg hs, if_pos hf]⟩
      · exact .inr ⟨.inr hf, by rw [HF2.out, if_neg hs, if_neg hf]⟩
  obtain ⟨m0, hm0⟩ : ∃ m0 : Bool, m0 = (!O.sees s e) := ⟨_, rfl⟩
  rw [← hm0] at hm ⊢
  clear hm0 h2 i2
  go_wp2_with fail
  go_loopw [6] (fun v wr => MemI w0 base g s e one I len N (st.depth + 1) fin v wr) (fun v wr => memMeas g v wr)
  case atStart => exact hm
  case round =>
    obtain ⟨m, x, sk, rfl, hA, hIx, hdep, hcase⟩ := hrel
    obtain ⟨fp, c3, hfp⟩ := hA.fault
    obtain ⟨c0, c1, c2, fz⟩ := hA.cells
    rcases hcase with ⟨rfl, hsf, hdp16, hlx, hsN, k, hk, hloop⟩ | ⟨hoff, hfinal⟩
    · obtain ⟨k, rfl⟩ : ∃ k', k = k' + 1 := ⟨k - 1, by omega⟩
      have hd0 : decide (sk.fault = none) = true := by simp [hsf]
      rw [hd0] at hfp
      have HLOOP := Lib.hid hloop
      have HSF := Lib.hid hsf
      have HDEP := Lib.hid hdep
      have HK := Lib.hid hk
      have hskN : 0 ≤ sk.depth ∧ sk.depth ≤ 16 := by have := HD.out; omega
      have HSN := Lib.hid (And.intro hsN hdp16)
      have HLX := Lib.hid hlx
      have hb : At w0 base g s wr sk := hA
      clear hd0 hloop hdep hk hsf
      go_wp2_with (first
        | (go_at_call 82; go_must (refine (HONE.out x wr sk hA hIx HSF.out HLX.out HSN.out.1 hskN.1 hskN.2).mono ?_; rintro en w3 ⟨rfl, h3, i3⟩))
        | (go_at_call 31; have hx_ := h5; go_must (refine (lift_at h5 (blanks_at h5.self)).mono ?_; rintro en w6 ⟨rfl, h6, t6⟩; have i6 := HI.out _ _ _ i5 t6))
        | (go_at_call 31; go_must (refine (lift_at h3 (blanks_at h3.self)).mono ?_; rintro en w4 ⟨rfl, h4, t4⟩; have i4 := HI.out _ _ _ i3 t4; obtain ⟨fq, c3_, hfq⟩ := h4.fault; obtain ⟨c0_, c1_, c2_, fz_⟩ := h4.cells))
        | (go_at_call 86; go_must (refine (lift_at h4 (next_at h4.self e)).mono ?_; rintro en w7 ⟨rfl, h7, t7⟩; have i7 := HI.out _ _ _ i4 t7))
        | (go_at_call 81; go_must (refine (lift_at h7 (must_lit 44 44 rfl h7.self)).mono ?_; rintro en w5 ⟨rfl, h5, t5⟩; have i5 := HI.out _ _ _ i7 t5)))
      all_goals (try clear c3 c0 c1 c2 fz hfp)
      · -- one more
        have hs : ((one x sk).2.blanks s).sees s e = false := by simpa using (by assumption : (!((one x sk).2.blanks s).sees s e) = true)
        have hf : ((one x sk).2.blanks s).fault = none := by assumption
        rw [PS.next_no hs] at h5 h6
        have hstep := HLOOP.out
        unfold loopP at hstep
        rw [if_pos hf, if_neg (by rw [hs]; decide)] at hstep
        have hat := HLE.out x sk
        have hat2 := PS.must_le ((one x sk).2.blanks s) s 44
        have hat3 := PS.blanks_le (((one x sk).2.blanks s).must s 44) s
        have hat4 := PS.blanks_le (one x sk).2 s
        have hdepth : ((((one x sk).2.blanks s).must s 44).blanks s).depth = st.depth + 1 := by
          rw [PS.blanks_depth, PS.must_depth, PS.blanks_depth, HDP.out]
          exact HDEP.out
        by_cases hcf : ((((one x sk).2.blanks s).must s 44).blanks s).fault = none
        · rw [if_pos hcf] at hstep
          have hm1 : (((one x sk).2.blanks s).must s 44).at_ = ((one x sk).2.blanks s).at_ + 1 := (PS.must_ok (by rw [← PS.blanks_fault _ s]; exact hcf)).1
          have hk1 := HK.out
          have hn1 := HSN.out
          have hlen := h6.ps.len
          have hlen2 := hA.ps.len
          refine ⟨⟨true, (one x sk).1, _, rfl, h6, i6, hdepth, .inl ⟨rfl, hcf, hn1.2, by have h5_ := HLE1.out x sk; have h6_ := HLX.out; omega, by omega, k, by omega, hstep⟩⟩, ?_⟩
          rw [memMeas_run h6 hcf, memMeas_run hA HSF.out]
          have := h6.len8
          omega
        · rw [if_neg hcf] at hstep
          refine ⟨⟨true, (one x sk).1, _, rfl, h6, i6, hdepth, .inr ⟨.inr hcf, hstep⟩⟩, ?_⟩
          rw [memMeas_fail h6 hcf, memMeas_run hA HSF.out]
          have h1_ := hA.len8
          have h2_ := hA.ps.len
          omega
      · have hs : ((one x sk).2.blanks s).sees s e = true := by simpa using (by assumption : (!((one x sk).2.blanks s).sees s e) = false)
        have hf : ((one x sk).2.blanks s).fault = none := by assumption
        have hstep := HLOOP.out
        unfold loopP at hstep
        rw [if_pos hf, if_pos hs] at hstep
        rw [hs]
        refine ⟨⟨false, (one x sk).1, _, rfl, h7, i7, by rw [PS.next_depth, PS.blanks_depth, HDP.out]; exact HDEP.out, .inr ⟨.inl rfl, hstep⟩⟩, ?_⟩
        have h1_ := hA.len8
        have h2_ := hA.ps.len
        show memMeas g (.bool false) w7 < _
        rw [memMeas_off, memMeas_run hA HSF.out]
        omega
      · have hf : ¬ ((one x sk).2.blanks s).fault = none := by assumption
        have hstep := HLOOP.out
        unfold loopP at hstep
        rw [if_neg hf] at hstep
        refine ⟨⟨false, (one x sk).1, _, rfl, h4, i4, by rw [PS.blanks_depth, HDP.out]; exact HDEP.out, .inr ⟨.inl rfl, hstep⟩⟩, ?_⟩
        have h1_ := hA.len8
        have h2_ := hA.ps.len
        rw [memMeas_off, memMeas_run hA HSF.out]
        omega
    · have hput := hA.putD (sk.depth - 1)
      have HPUT := Lib.hid hput
      have hq : sk.depth = st.depth + 1 := hdep
      have hq1 : -100 ≤ sk.depth ∧ sk.depth ≤ 100 := by have := HD.out; omega
      obtain ⟨hq1, hq2⟩ := hq1
      have HTD := Lib.hid ((hA.self.putD (sk.depth - 1)).turn)
      have iE := Lib.hid (HI.out _ _ _ hIx HTD.out)
      have HFI := Lib.hid hfinal
      clear hq hdep hput
      have hend : ∀ wz : World, wz = wr.setCell ⟨g, 2, none⟩ (.int .i64 (sk.depth - 1)) → At w0 base g s wz (memP s e one n x0 st).2 ∧ I (memP s e one n x0 st).1 wz := by
        intro wz hz
        subst hz
        rw [HFIN.out, ← HFI.out]
        exact ⟨HPUT.out, iE.out⟩
      have HEND := Lib.hid hend
      clear hend hfinal
      rcases hoff with hoff | hoff
      · subst hoff
        go_wp2
        first
          | go_end0
          | (refine bodyPost_ret (results_none rfl _ _ _) rfl ?_)
        exact ⟨rfl, HEND.out _ rfl⟩
      · have hd0 : decide (sk.fault = none) = false := by simp [hoff]
        rw [hd0] at hfp
        clear hoff hd0
        cases m with
        | false =>
          go_wp2
          first
            | go_end0
            | (refine bodyPost_ret (results_none rfl _ _ _) rfl ?_)
          exact ⟨rfl, HEND.out _ rfl⟩
        | true =>
          go_wp2
          first
            | go_end0
            | (refine bodyPost_ret (results_none rfl _ _ _) rfl ?_)
          exact ⟨rfl, HEND.out _ rfl⟩
set_option maxRecDepth 100000 in
set_option maxHeartbeats 800000 in
theorem members_obj {α : Type} (e : UInt8) (one : α → PS → α × PS) (I : α → World → Prop) (caps : Array Value) (x0 : α) (n : Nat) (N : Nat) (len : α → Nat) (hlen0 : len x0 = 0) (hlen : ∀ x st, len (one x st).1 ≤ len x + 1)
    (hI : ∀ x w w', I x w → Turn g w w' → I x w') (hle : ∀ x st, st.at_ ≤ (one x st).2.at_) (hdp : ∀ x st, (one x st).2.depth = st.depth)
    (hone : ∀ x w' st', At w0 base g s w' st' → I x w' → st'.fault = none → len x ≤ st'.at_ → s.length - st'.at_ < N → 0 ≤ st'.depth → st'.depth ≤ 16 → Calls Tryd.prog 80 caps w' (fun en w'' => en = .returned (.tuple #[]) ∧ At w0 base g s w'' (one x st').2 ∧ I (one x st').1 w''))
    (h : At w0 base g s w st) (h0 : I x0 w) (hlt : st.at_ < s.length) (hN : s.length - st.at_ ≤ N) (hNn : N ≤ n) (hd0 : 0 ≤ st.depth) (hd1 : st.depth ≤ 16) (E : Int) (hE : E = (e.toNat : Int)) :
    Calls Tryd.prog 79 #[.pointer (some ⟨g, 0, none⟩), .int .u8 E, .func (.func 80) #[] caps] w (fun en w' => en = .returned (.tuple #[]) ∧ At w0 base g s w' (memP s e one n x0 st).2 ∧ I (memP s e one n x0 st).1 w') := by
  subst hE
  have HI := Lib.hid hI
  have HL0 := Lib.hid hlen0
  have HLE1 := Lib.hid hlen
  have HLE := Lib.hid hle
  have HDP := Lib.hid hdp
  have HONE := Lib.hid hone
  have HNN := Lib.hid (And.intro hN hNn)
  have h0' := Lib.hid h0
  have HD := Lib.hid (And.intro hd0 hd1)
  obtain ⟨O, hO⟩ : ∃ O, O = st.open_ s := ⟨_, rfl⟩
  have hOd : O.depth = st.depth + 1 := by rw [hO]; exact PS.open_depth st s
  have HOD := Lib.hid hOd
  have HOA := Lib.hid (show st.at_ + 1 ≤ O.at_ by rw [hO]; exact PS.open_le st s)
  have HOK := Lib.hid (show O.fault = none → st.fault = none ∧ st.depth + 1 ≤ 16 by rw [hO]; exact PS.open_ok)
  obtain ⟨fin, hfin⟩ : ∃ fin, fin = (if O.sees s e then (x0, O.next s e) else if O.fault = none then loopP s e one n x0 O else (x0, O)) := ⟨_, rfl⟩
  have HFIN : Hid (memP s e one n x0 st = (fin.1, fin.2.higher)) := by
    show _ = _
    unfold memP
    rw [← hO, hfin]
    split
    · rfl
    · split <;> rfl
  have HF2 := Lib.hid hfin
  have HO := Lib.hid hO
  have hopen := open_at h.self hd0 (by omega) hlt
  rw [← hO] at hopen
  have HOPS := Lib.hid hopen
  have HW := Lib.hid h
  have HLT := Lib.hid hlt
  clear hlen0 hlen hI hle hdp hone hN hNn h0 hd0 hd1 hO hOd hfin hopen hlt h
  go_enter Tryd.func79, Tryd.ntmps79
  go_upto_block 0 with (first
    | (go_at_call 105; go_must (refine (lift_at HW.out HOPS.out).mono ?_; rintro en w1 ⟨rfl, h1, t1⟩; have i1 := HI.out _ _ _ h0'.out t1))
    | (go_at_call 86; go_must (refine (lift_at h1 (next_at h1.self e)).mono ?_; rintro en w2 ⟨rfl, h2, t2⟩; have i2 := HI.out _ _ _ i1 t2)))
  clear h1 t1 i1 t2
  have hm : MemI w0 base g s e one I len N (st.depth + 1) fin (.bool (!O.sees s e)) w2 := by
    refine ⟨_, x0, _, rfl, h2, i2, by rw [PS.next_depth]; exact HOD.out, ?_⟩
    by_cases hs : O.sees s e = true
    · exact .inr ⟨.inl (by simp [hs]), by rw [HF2.out, if_pos hs]⟩
    · have hs' : O.sees s e = false := by simpa using hs
      rw [PS.next_no hs']
      by_cases hf : O.fault = none
      · have h_ := HNN.out
        have h2_ := HOA.out
        have h3_ := HLT.out
        exact .inl ⟨by simp [hs'], hf, (HOK.out hf).2, by rw [HL0.out]; exact Nat.zero_le _, by omega, n, by omega, by rw [HF2.out, if_neg hs, if_pos hf]⟩
      · exact .inr ⟨.inr hf, by rw [HF2.out, if_neg hs, if_neg hf]⟩
  obtain ⟨m0, hm0⟩ : ∃ m0 : Bool, m0 = (!O.sees s e) := ⟨_, rfl⟩
  rw [← hm0] at hm ⊢
  clear hm0 h2 i2
  go_wp2_with fail
  go_loopw [6] (fun v wr => MemI w0 base g s e one I len N (st.depth + 1) fin v wr) (fun v wr => memMeas g v wr)
  case atStart => exact hm
  case round =>
    obtain ⟨m, x, sk, rfl, hA, hIx, hdep, hcase⟩ := hrel
    obtain ⟨fp, c3, hfp⟩ := hA.fault
    obtain ⟨c0, c1, c2, fz⟩ := hA.cells
    rcases hcase with ⟨rfl, hsf, hdp16, hlx, hsN, k, hk, hloop⟩ | ⟨hoff, hfinal⟩
    · obtain ⟨k, rfl⟩ : ∃ k', k = k' + 1 := ⟨k - 1, by omega⟩
      have hd0 : decide (sk.fault = none) = true := by simp [hsf]
      rw [hd0] at hfp
      have HLOOP := Lib.hid hloop
      have HSF := Lib.hid hsf
      have HDEP := Lib.hid hdep
      have HK := Lib.hid hk
      have hskN : 0 ≤ sk.depth ∧ sk.depth ≤ 16 := by have := HD.out; omega
      have HSN := Lib.hid (And.intro hsN hdp16)
      have HLX := Lib.hid hlx
      have hb : At w0 base g s wr sk := hA
      clear hd0 hloop hdep hk hsf
      go_wp2_with (first
        | (go_at_call 80; go_must (refine (HONE.out x wr sk hA hIx HSF.out HLX.out HSN.out.1 hskN.1 hskN.2).mono ?_; rintro en w3 ⟨rfl, h3, i3⟩))
        | (go_at_call 31; have hx_ := h5; go_must (refine (lift_at h5 (blanks_at h5.self)).mono ?_; rintro en w6 ⟨rfl, h6, t6⟩; have i6 := HI.out _ _ _ i5 t6))
        | (go_at_call 31; go_must (refine (lift_at h3 (blanks_at h3.self)).mono ?_; rintro en w4 ⟨rfl, h4, t4⟩; have i4 := HI.out _ _ _ i3 t4; obtain ⟨fq, c3_, hfq⟩ := h4.fault; obtain ⟨c0_, c1_, c2_, fz_⟩ := h4.cells))
        | (go_at_call 86; go_must (refine (lift_at h4 (next_at h4.self e)).mono ?_; rintro en w7 ⟨rfl, h7, t7⟩; have i7 := HI.out _ _ _ i4 t7))
        | (go_at_call 81; go_must (refine (lift_at h7 (must_lit 44 44 rfl h7.self)).mono ?_; rintro en w5 ⟨rfl, h5, t5⟩; have i5 := HI.out _ _ _ i7 t5)))
      all_goals (try clear c3 c0 c1 c2 fz hfp)
      · -- one more
        have hs : ((one x sk).2.blanks s).sees s e = false := by simpa using (by assumption : (!((one x sk).2.blanks s).sees s e) = true)
        have hf : ((one x sk).2.blanks s).fault = none := by assumption
        rw [PS.next_no hs] at h5 h6
        have hstep := HLOOP.out
        unfold loopP at hstep
        rw [if_pos hf, if_neg (by rw [hs]; decide)] at hstep
        have hat := HLE.out x sk
        have hat2 := PS.must_le ((one x sk).2.blanks s) s 44
        have hat3 := PS.blanks_le (((one x sk).2.blanks s).must s 44) s
        have hat4 := PS.blanks_le (one x sk).2 s
        have hdepth : ((((one x sk).2.blanks s).must s 44).blanks s).depth = st.depth + 1 := by
          rw [PS.blanks_depth, PS.must_depth, PS.blanks_depth, HDP.out]
          exact HDEP.out
        by_cases hcf : ((((one x sk).2.blanks s).must s 44).blanks s).fault = none
        · rw [if_pos hcf] at hstep
          have hm1 : (((one x sk).2.blanks s).must s 44).at_ = ((one x sk).2.blanks s).at_ + 1 := (PS.must_ok (by rw [← PS.blanks_fault _ s]; exact hcf)).1
          have hk1 := HK.out
          have hn1 := HSN.out
          have hlen := h6.ps.len
          have hlen2 := hA.ps.len
          refine ⟨⟨true, (one x sk).1, _, rfl, h6, i6, hdepth, .inl ⟨rfl, hcf, hn1.2, by have h5_ := HLE1.out x sk; have h6_ := HLX.out; omega, by omega, k, by omega, hstep⟩⟩, ?_⟩
          rw [memMeas_run h6 hcf, memMeas_run hA HSF.out]
          have := h6.len8
          omega
        · rw [if_neg hcf] at hstep
          refine ⟨⟨true, (one x sk).1, _, rfl, h6, i6, hdepth, .inr ⟨.inr hcf, hstep⟩⟩, ?_⟩
          rw [memMeas_fail h6 hcf, memMeas_run hA HSF.out]
          have h1_ := hA.len8
          have h2_ := hA.ps.len
          omega
      · have hs : ((one x sk).2.blanks s).sees s e = true := by simpa using (by assumption : (!((one x sk).2.blanks s).sees s e) = false)
        have hf : ((one x sk).2.blanks s).fault = none := by assumption
        have hstep := HLOOP.out
        unfold loopP at hstep
        rw [if_pos hf, if_pos hs] at hstep
        rw [hs]
        refine ⟨⟨false, (one x sk).1, _, rfl, h7, i7, by rw [PS.next_depth, PS.blanks_depth, HDP.out]; exact HDEP.out, .inr ⟨.inl rfl, hstep⟩⟩, ?_⟩
        have h1_ := hA.len8
        have h2_ := hA.ps.len
        show memMeas g (.bool false) w7 < _
        rw [memMeas_off, memMeas_run hA HSF.out]
        omega
      · have hf : ¬ ((one x sk).2.blanks s).fault = none := by assumption
        have hstep := HLOOP.out
        unfold loopP at hstep
        rw [if_neg hf] at hstep
        refine ⟨⟨false, (one x sk).1, _, rfl, h4, i4, by rw [PS.blanks_depth, HDP.out]; exact HDEP.out, .inr ⟨.inl rfl, hstep⟩⟩, ?_⟩
        have h1_ := hA.len8
        have h2_ := hA.ps.len
        rw [memMeas_off, memMeas_run hA HSF.out]
        omega
    · have hput := hA.putD (sk.depth - 1)
      have HPUT := Lib.hid hput
      have hq : sk.depth = st.depth + 1 := hdep
      have hq1 : -100 ≤ sk.depth ∧ sk.depth ≤ 100 := by have := HD.out; omega
      obtain ⟨hq1, hq2⟩ := hq1
      have HTD := Lib.hid ((hA.self.putD (sk.depth - 1)).turn)
      have iE := Lib.hid (HI.out _ _ _ hIx HTD.out)
      have HFI := Lib.hid hfinal
      clear hq hdep hput
      have hend : ∀ wz : World, wz = wr.setCell ⟨g, 2, none⟩ (.int .i64 (sk.depth - 1)) → At w0 base g s wz (memP s e one n x0 st).2 ∧ I (memP s e one n x0 st).1 wz := by
        intro wz hz
        subst hz
        rw [HFIN.out, ← HFI.out]
        exact ⟨HPUT.out, iE.out⟩
      have HEND := Lib.hid hend
      clear hend hfinal
      rcases hoff with hoff | hoff
      · subst hoff
        go_wp2
        first
          | go_end0
          | (refine bodyPost_ret (results_none rfl _ _ _) rfl ?_)
        exact ⟨rfl, HEND.out _ rfl⟩
      · have hd0 : decide (sk.fault = none) = false := by simp [hoff]
        rw [hd0] at hfp
        clear hoff hd0
        cases m with
        | false =>
          go_wp2
          first
            | go_end0
            | (refine bodyPost_ret (results_none rfl _ _ _) rfl ?_)
          exact ⟨rfl, HEND.out _ rfl⟩
        | true =>
          go_wp2
          first
            | go_end0
            | (refine bodyPost_ret (results_none rfl _ _ _) rfl ?_)
          exact ⟨rfl, HEND.out _ rfl⟩
end
end Go.Proofs.YtkbopeoaoakfnaaDoor
