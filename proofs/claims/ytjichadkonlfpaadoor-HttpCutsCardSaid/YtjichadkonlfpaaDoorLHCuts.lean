/- HttpCuts: the walk. No conditions. -/
import Derived.Test.YtjichadkonlfpaaDoorH20
import Derived.Test.YtjichadkonlfpaaDoorArgInt
namespace Go.Proofs.YtjichadkonlfpaaDoor
open Go.RowKit
theorem feedP_req (l : List UInt8) : ∀ s, Ok s → ¬ (s.st = 9 ∧ s.lf = 0) → ∀ q ∈ (feedP s l).2.1, q.hs.length ≤ 1000000000 ∧ q.bd.length ≤ 1000000000 := by
  induction l with
  | nil => intro s _ _ q hq; simp [feedP] at hq
  | cons c l ih =>
    intro s h2 h3 q hq
    unfold feedP at hq
    split at hq
    · simp at hq
    rename_i h0
    have h0' : (take1P s c).2 = 0 := Classical.not_not.1 h0
    have hok := take1_ok h2 h3 h0'
    have hb : (reqOf (take1P s c).1).hs.length ≤ 1000000000 ∧ (reqOf (take1P s c).1).bd.length ≤ 1000000000 := by
      have a1 := hok.hl
      have a2 := hok.hd1
      have a3 := hok.bd
      exact ⟨by show (take1P s c).1.hs.length ≤ _; omega, by show (take1P s c).1.bd.length ≤ _; omega⟩
    split at hq
    · split at hq
      · rw [List.mem_singleton.1 hq]; exact hb
      · rcases List.mem_cons.1 hq with rfl | hq
        · exact hb
        · exact ih _ (ok_zero false) (by simp [zeroP]) q hq
    · rename_i h9
      exact ih _ hok h9 q hq
theorem F_req (l : List UInt8) : ∀ q ∈ (F (zeroP false) l).2.1, q.hs.length ≤ 1000000000 ∧ q.bd.length ≤ 1000000000 := by
  have h : F (zeroP false) l = feedP (zeroP false) l := by unfold F; rfl
  rw [h]
  exact feedP_req l _ (ok_zero false) (by simp [zeroP])
theorem cut_ok (cut : Int) (n : Nat) (hn : n ≤ 12000) : ∃ m : Nat, wrap64 ((IntKind.u64.wrap cut).tmod ((n : Int) + 1)) = (m : Int) ∧ m ≤ n := by
  have h0 : 0 ≤ IntKind.u64.wrap cut := wrap_u64_nonneg cut
  generalize IntKind.u64.wrap cut = x at h0
  rw [Int.tmod_eq_emod_of_nonneg h0]
  have h1 := Int.emod_nonneg x (show ((n : Int) + 1) ≠ 0 by omega)
  have h2 := Int.emod_lt_of_pos x (show (0 : Int) < (n : Int) + 1 by omega)
  generalize x % ((n : Int) + 1) = y at h1 h2
  refine ⟨y.toNat, ?_, by omega⟩
  unfold wrap64
  omega
theorem RR.form {w : World} {v : Value} {rs : List Req} (h : RR w v rs) : ∃ A c, v = .slice A rs.length c := by
  obtain ⟨_, _, ⟨A, c, h2, _⟩, _⟩ := h
  exact ⟨A, c, h2⟩
theorem reads_one {w : World} {b o : Nat} {x : UInt8} (h : w.cell? ⟨b, o, none⟩ = some (.int .u8 (x.toNat : Int))) (hb : b < w.heap.size) : Reads w w.heap.size 1 (some ⟨b, o, none⟩) 1 (bvs [x]) := by
  refine ⟨rfl, fun _ => ⟨_, rfl, hb, fun j u hu => ?_⟩⟩
  have hj : j = 0 := by
    have := (List.getElem?_eq_some_iff.1 hu).1
    simp [bvs] at this
    exact this
  subst hj
  rw [add_none, Nat.add_zero, h]
  simpa [bvs, bv] using hu
theorem take_getD {l : List UInt8} {k : Nat} (h : k < l.length) : l.take (k + 1) = l.take k ++ [l.getD k 0] := by
  rw [List.take_succ_eq_append_getElem h]
  simp [h]
set_option maxRecDepth 100000 in
set_option maxHeartbeats 4000000 in
theorem cuts_walk (v0 v1 : Value) (l : List UInt8) (cut : Int) (w : World) (a0 : ArgB w v0 l) (a1 : ArgI v1 cut) :
    Calls Tryd.prog 4 #[v0, v1] w fun e w' => e = .returned (.bool true) ∧ Below w.heap.size w w' := by
  obtain ⟨A, c, rfl, hc, hr, hl⟩ := a0
  obtain ⟨rfl, i0, i1⟩ := a1
  obtain ⟨n, hn⟩ : ∃ n, n = l.length := ⟨_, rfl⟩
  rw [← hn] at hc hr ⊢
  have HR := Lib.hid hr
  have HN := Lib.hid hn
  have I0 := Lib.hid i0
  have I1 := Lib.hid i1
  by_cases hbig : 12000 < n
  · have gx0 : (12000 : Int) < (n : Int) := by omega
    clear hr hl hn hc
    go_enter Tryd.func4, Tryd.ntmps4
    go_wp2_with (first
      | (go_at_call 7; go_must (refine (awake_any w).mono ?_; rintro e w1 ⟨rfl, hb⟩; have HB1 := Lib.hid hb; clear hb)))
    go_ret
    exact ⟨rfl, HB1.out⟩
  have gx0 : decide ((12000 : Int) < (n : Int)) = false := by simp; omega
  have gI : (n : Int) ≤ 12000 := by omega
  have HC := Lib.hid hc
  have hcI : (n : Int) ≤ (c : Int) := by omega
  clear hr hl hn hc hbig
  have T0 : Hid True := trivial
  go_enter Tryd.func4, Tryd.ntmps4
  go_wp2_with (first
    | (go_at_call 7; go_must (refine (awake_any w).mono ?_; rintro e w1 ⟨rfl, hb⟩; have HB1 := Lib.hid hb; clear hb))
    | (go_at_call 9; have hx_ := T2; go_must (refine (new_any w3).mono ?_; rintro e w4 ⟨g3, rfl, P4, hb, hg⟩; have HP4 := Lib.hid P4; have HB4 := Lib.hid hb; have HG4 := Lib.hid hg; have T3 := hx_; clear P4 hb hg T2 hx_))
    | (go_at_call 9; have hx_ := T1; go_must (refine (new_any w2).mono ?_; rintro e w3 ⟨g2, rfl, P3, hb, hg⟩; have HP3 := Lib.hid P3; have HB3 := Lib.hid hb; have HG3 := Lib.hid hg; have T2 := hx_; clear P3 hb hg T1 hx_))
    | (go_at_call 9; have hx_ := T0; go_must (refine (new_any w1).mono ?_; rintro e w2 ⟨g1, rfl, P2, hb, hg⟩; have HP2 := Lib.hid P2; have HB2 := Lib.hid hb; have HG2 := Lib.hid hg; have T1 := hx_; clear P2 hb hg T0 hx_))
    | (go_at_call 10; go_must (
        have Q1 := (HP2.out.below HB3.out).below HB4.out
        have BL : Below w.heap.size w w4 := ((HB1.out.trans (HB2.out.mono HB1.out.size)).trans (HB3.out.mono (Nat.le_trans HB1.out.size HB2.out.size))).trans (HB4.out.mono (Nat.le_trans (Nat.le_trans HB1.out.size HB2.out.size) HB3.out.size))
        refine (feedF_any w4 g1 (zeroP false) _ _ _ l A n c Q1 okF_zero (HR.out.bel BL BL.size) (fun h0 b off hA hm => by have h1 := reads_block_lt HR.out h0 hA; have h2 : b = g1 := (by simpa [PL, Value.ownBlock] using hm); have h3 := HB1.out.size; have h4 := HG2.out; omega) (by rw [← HN.out]; omega)).mono ?_
        rintro e w5 ⟨av, La, W1, H1, B1, rfl, hLa, F1⟩
        have HLa := Lib.hid hLa
        have HF1 := Lib.hid F1
        have HBL := Lib.hid BL
        clear hLa F1 BL Q1)))
  have F0 := F_nil (zeroP false)
  have P25 : Hid (Par w5 g2 (zeroP false) (.slice none 0 0) (.slice none 0 0) (.slice none 0 0)) := (HP3.out.below HB4.out).frm HF1.out.stp.frm (fun k hk hm => by
    have h1 : k = g2 := (by simpa [PL, Value.ownBlock] using hk)
    have h2 : k = g1 := (by simpa [PL, Value.ownBlock] using hm)
    have h3 := HG3.out
    have h4 := lt_of_heap HP2.out.row
    omega)
  go_loopw [10, 11, 35] (fun d t i wr => ∃ (k : Nat) (tt : Int), k ≤ n ∧ i = .int .i64 (k : Int) ∧ t = .int .i64 tt ∧ Hid (tt = (F (zeroP false) (l.take k)).2.2 ∧ ∃ L W H B, FS g2 (.slice none 0 0) (.slice none 0 0) (.slice none 0 0) w5 (F (zeroP false) (l.take k)).1 d L W H B wr ∧ L.map (·.1) = (F (zeroP false) (l.take k)).2.1)) (fun _ _ i _ => n - (intOf i).toNat)
  case atStart => exact ⟨0, 0, Nat.zero_le _, rfl, rfl, by rw [List.take_zero, F0], [], _, _, _, by rw [List.take_zero, F0]; exact FS.start P25.out, by rw [List.take_zero, F0]; rfl⟩
  clear F0
  case round =>
    obtain ⟨k, tt, hk, rfl, rfl, hO⟩ := hrel
    obtain ⟨htt, Lc, W2, H2, B2, FC, hLc⟩ := hO.out
    obtain ⟨Ad, cd, hd, _, _⟩ := ownR_form FC.held.row
    subst hd
    have HFC := Lib.hid FC
    have HLc := Lib.hid hLc
    have HTT := Lib.hid htt
    clear FC hLc htt hO
    by_cases hlt : k < n
    · have hlt' : (k : Int) < (n : Int) := by omega
      have hk0 : (0 : Int) ≤ (k : Int) := by omega
      have hkI : (k : Int) + 1 ≤ (c : Int) := by omega
      obtain ⟨bb, off, hA, hbb, hcell⟩ := HR.out.bytes (by omega)
      subst hA
      obtain ⟨x, hx⟩ : ∃ x, x = l.getD k 0 := ⟨_, rfl⟩
      have BW : Hid (Below w.heap.size w wr) := by
        show Below _ _ _
        have h1 := HBL.out
        have h2 : Below w.heap.size w4 w5 := HF1.out.below (Nat.le_trans HB1.out.size HG2.out) h1.size
        have h3 : Below w.heap.size w5 wr := HFC.out.below (Nat.le_trans (Nat.le_trans HB1.out.size HB2.out.size) HG3.out) (Nat.le_trans h1.size h2.size)
        exact (h1.trans h2).trans h3
      have RD : Hid (Reads wr wr.heap.size 1 (some ⟨bb, off + k, none⟩) 1 (bvs [x])) := by
        refine reads_one ?_ (Nat.lt_of_lt_of_le hbb BW.out.size)
        rw [hx]
        exact (BW.out.cell (p := ⟨bb, off + k, none⟩) hbb).trans (hcell k hlt)
      have TK : Hid (l.take (k + 1) = l.take k ++ [x]) := by show _ = _; rw [hx]; exact take_getD (by rw [← HN.out]; exact hlt)
      have HBBN : Hid (bb < w.heap.size) := hbb
      have HK := Lib.hid hlt
      have CNT : Hid (Lc.length ≤ 12000) := by
        show _ ≤ _
        have h1 := congrArg List.length HLc.out
        rw [List.length_map] at h1
        have h2 := F_count (zeroP false) (l.take k)
        rw [List.length_take] at h2
        omega
      clear hx hcell hbb
      go_wp2_with (first
        | (go_at_call 10; go_must (
            refine (feedF_any wr g2 _ W2 H2 B2 [x] _ 1 _ HFC.out.par (F_okF _ okF_zero) RD.out (fun _ b o hA hm => by cases hA; have h1 := HBBN.out; rcases HFC.out.stp.new _ hm with h2 | h2; { have h3 : bb = g2 := (by simpa [PL, Value.ownBlock] using h2); have h4 := HG3.out; have h5 := HB1.out.size; have h6 := HB2.out.size; omega }; { have h4 := HBL.out.size; have h5 := HF1.out.stp.frm.size; omega }) (by simp)).mono ?_
            rintro e w6 ⟨v6, L6, W6, H6, B6, rfl, hL6, F6⟩
            have J := HFC.out.join (c' := Value.slice none 0 0) (w2 := w6) F6
            obtain ⟨A6, c6, hv6, _, _⟩ := ownR_form F6.held.row
            subst hv6
            have HL6 := Lib.hid hL6
            have HF6 := Lib.hid F6
            have J1 := Lib.hid J.1
            have J2 := Lib.hid J.2.1
            have J3 := Lib.hid J.2.2.1
            have C6 : Hid (L6.length ≤ 1) := (by show _ ≤ _; have h1 := congrArg List.length hL6; rw [List.length_map] at h1; have h2 := F_count (F (zeroP false) (l.take k)).1 [x]; simp only [List.length_cons, List.length_nil] at h2; omega)
            clear J F6 hL6))
        | (at_builtin; go_must (refine app_held (L := Lc) (M := L6) rfl rfl rfl rfl J1.out J2.out rfl J3.out (by have h1 := CNT.out; have h2 := C6.out; omega) ?_; intro c' w7 hh hg hn; have FN := (HFC.out.join (c' := c') (w2 := w7) HF6.out).2.2.2 hh hg hn; obtain ⟨A7, c7, hv7, _, _⟩ := ownR_form FN.held.row; subst hv7; have HFN := Lib.hid FN; clear FN hh hg hn)))
      go_roundw
      case rel =>
        refine ⟨k + 1, _, HK.out, by go_num, rfl, ?_, Lc ++ L6, W6, H6, B6, ?_, ?_⟩
        · rw [HTT.out, TK.out, F_app]
        · have h1 := HFN.out
          rw [List.length_append] at h1
          rw [TK.out, F_app]; exact h1
        · rw [TK.out, F_app, List.map_append, HLc.out, HL6.out]
      case measure => simp [intOf]; omega
    · obtain rfl : k = n := by omega
      obtain ⟨m, hcut, hm⟩ := cut_ok cut k (by omega)
      have HCUT := Lib.hid hcut
      have hmI : (m : Int) ≤ (k : Int) := by omega
      have hm0 : (0 : Int) ≤ (m : Int) := by omega
      have hmcI : (m : Int) ≤ (c : Int) := by omega
      have HM := Lib.hid hm
      have TN : Hid (l.take k = l) := by show _ = _; rw [HN.out, List.take_length]
      have G12 : Hid (g1 < g2 ∧ g2 < g3 ∧ g3 < w4.heap.size ∧ w.heap.size ≤ g1) := ⟨Nat.lt_of_lt_of_le (lt_of_heap HP2.out.row) HG3.out, Nat.lt_of_lt_of_le (lt_of_heap HP3.out.row) HG4.out, lt_of_heap HP4.out.row, Nat.le_trans HB1.out.size HG2.out⟩
      have SPL : Hid (l.take m ++ l.drop m = l) := List.take_append_drop m l
      have BW : Hid (Below w.heap.size w wr) := by
        show Below _ _ _
        have h1 := HBL.out
        have h2 : Below w.heap.size w4 w5 := HF1.out.below G12.out.2.2.2 h1.size
        have h3 : Below w.heap.size w5 wr := HFC.out.below (by have := G12.out; omega) (Nat.le_trans h1.size h2.size)
        exact (h1.trans h2).trans h3
      have S45 : Hid (w4.heap.size ≤ w5.heap.size) := HF1.out.stp.frm.size
      have S5r : Hid (w5.heap.size ≤ wr.heap.size) := HFC.out.stp.frm.size
      -- what lies at wr, and is not of the third parser
      have P38 : Hid (Par wr g3 (zeroP false) (.slice none 0 0) (.slice none 0 0) (.slice none 0 0)) := by
        show Par _ _ _ _ _ _
        refine (HP4.out.frm HF1.out.stp.frm (fun q hq hm => ?_)).frm HFC.out.stp.frm (fun q hq hm => ?_)
        · have h1 : q = g3 := by simpa [PL, Value.ownBlock] using hq
          have h2 : q = g1 := by simpa [PL, Value.ownBlock] using hm
          have := G12.out; omega
        · have h1 : q = g3 := by simpa [PL, Value.ownBlock] using hq
          have h2 : q = g2 := by simpa [PL, Value.ownBlock] using hm
          have := G12.out; omega
      have A8 : Hid (Held wr av La ∧ ∀ q ∈ HL av La, q ≠ g3) := by
        refine ⟨HF1.out.held.frm HFC.out.stp.frm (fun q hq hm => ?_), fun q hq e => ?_⟩
        · have h2 : q = g2 := by simpa [PL, Value.ownBlock] using hm
          rcases HF1.out.org q hq with h3 | h3
          · have h4 : q = g1 := by simpa [PL, Value.ownBlock] using h3
            have := G12.out; omega
          · have := G12.out; omega
        · rcases HF1.out.org q hq with h3 | h3
          · have h4 : q = g1 := by simpa [PL, Value.ownBlock] using h3
            have := G12.out; omega
          · have := G12.out; omega
      have Q8 : Hid (Par wr g1 (F (zeroP false) l).1 W1 H1 B1 ∧ ∀ q ∈ PL g1 W1 H1 B1, q ≠ g3) := by
        refine ⟨HF1.out.par.frm HFC.out.stp.frm (fun q hq hm => ?_), fun q hq e => ?_⟩
        · have h2 : q = g2 := by simpa [PL, Value.ownBlock] using hm
          rcases HF1.out.stp.new q hq with h3 | h3
          · have h4 : q = g1 := by simpa [PL, Value.ownBlock] using h3
            have := G12.out; omega
          · have := G12.out; omega
        · rcases HF1.out.stp.new q hq with h3 | h3
          · have h4 : q = g1 := by simpa [PL, Value.ownBlock] using h3
            have := G12.out; omega
          · have := G12.out; omega
      have C8 : Hid (∀ q ∈ HL (.slice Ad Lc.length cd) Lc, q ≠ g3) := fun q hq e => by
        rcases HFC.out.org q hq with h3 | h3
        · have h4 : q = g2 := by simpa [PL, Value.ownBlock] using h3
          have := G12.out; omega
        · have := G12.out; have := S45.out; omega
      have D8 : Hid (∀ q ∈ PL g2 W2 H2 B2, q ≠ g3) := fun q hq e => by
        rcases HFC.out.stp.new q hq with h3 | h3
        · have h4 : q = g2 := by simpa [PL, Value.ownBlock] using h3
          have := G12.out; omega
        · have := G12.out; have := S45.out; omega
      have BBLT : Hid (∀ b o, A = some ⟨b, o, none⟩ → 0 < k → b < w.heap.size) := fun b o hA h0 => reads_block_lt HR.out h0 hA
      obtain ⟨sa, hsa⟩ : ∃ sa, sa = (F (zeroP false) l).2.2 := ⟨_, rfl⟩
      have HSA := Lib.hid hsa
      rw [← hsa]
      have hts : tt = sa := by rw [HTT.out, TN.out, hsa]
      subst hts
      clear hsa hm
      have FA := F_app (zeroP false) (l.take m) (l.drop m)
      rw [SPL.out] at FA
      have hmx : max (F (zeroP false) (l.take m)).2.2 (F (F (zeroP false) (l.take m)).1 (l.drop m)).2.2 = tt := by rw [HSA.out, FA]
      obtain ⟨rs, hrs⟩ : ∃ rs, rs = (F (zeroP false) l).2.1 := ⟨_, rfl⟩
      obtain ⟨ee, hee⟩ : ∃ ee, ee = (F (zeroP false) l).1.en := ⟨_, rfl⟩
      have LA : Hid (La.map (·.1) = rs) := by show _ = _; rw [HLa.out, hrs]
      have LC : Hid (Lc.map (·.1) = rs) := by show _ = _; rw [HLc.out, TN.out, hrs]
      have LD : Hid (∀ Ld Le : List Held1, Ld.map (·.1) = (F (zeroP false) (l.take m)).2.1 → Le.map (·.1) = (F (F (zeroP false) (l.take m)).1 (l.drop m)).2.1 → (Ld ++ Le).map (·.1) = rs) := by
        intro Ld Le h1 h2
        rw [List.map_append, h1, h2, hrs, FA]
      have RLN : Hid (rs.length ≤ 100000) := by show _ ≤ _; have h1 := F_count (zeroP false) l; rw [hrs]; have := HN.out; omega
      have RQ : Hid (∀ q ∈ rs, q.hs.length ≤ 1000000000 ∧ q.bd.length ≤ 1000000000) := by show ∀ q ∈ rs, _; rw [hrs]; exact F_req l
      have E1 : Hid ((F (zeroP false) l).1.en = ee) := hee.symm
      have E2 : Hid ((F (zeroP false) (l.take k)).1.en = ee) := by show _ = _; rw [TN.out]; exact hee.symm
      have E3 : Hid ((F (F (zeroP false) (l.take m)).1 (l.drop m)).1.en = ee) := by show _ = _; rw [hee, FA]
      clear FA hrs hee
      have V0 : Hid True := trivial
      have U0 : Hid True := trivial
      go_wp2_with (first
        | (go_at_call 10; have hx_ := V0; clear hcut; go_must (
            refine (feedF_any wr g3 (zeroP false) _ _ _ (l.take m) _ m _ P38.out okF_zero (by have h1 := (HR.out.bel BW.out BW.out.size).take (k := m) HM.out; rw [Nat.mul_one] at h1; rw [show bvs (l.take m) = (bvs l).take m from by simp [bvs]]; exact h1) (fun h0 b o hA hm => by { have h1 := BBLT.out b o hA (by have := HM.out; omega); have h2 : b = g3 := (by simpa [PL, Value.ownBlock] using hm); have := G12.out; omega }) (by have h1 := HN.out; rw [List.length_take]; omega)).mono ?_
            rintro e w9 ⟨dv, Ld, W8, H8, B8, rfl, hLd, FD⟩
            obtain ⟨A9, c9, hv9, _, _⟩ := ownR_form FD.held.row
            subst hv9
            have HLd := Lib.hid hLd
            have HFD := Lib.hid FD
            have BW9 := Lib.hid (BW.out.trans (FD.below (K := w.heap.size) (by have := G12.out; omega) BW.out.size))
            have V1 := hx_
            have hcut := HCUT.out
            clear FD hLd V0 hx_))
        | (go_at_call 10; have hx_ := V1; clear hcut; go_must (
            refine (feedF_any w9 g3 _ W8 H8 B8 (l.drop m) _ (k - m) _ HFD.out.par (F_okF _ okF_zero) (by have h1 := (HR.out.bel BW9.out BW9.out.size).cut (k := m) (cap := c) HM.out HC.out; simp only [Nat.mul_one] at h1; rw [show bvs (l.drop m) = (bvs l).drop m from by simp [bvs]]; exact h1) (fun h0 b o hA hm => by { have h1 : b < w.heap.size := (by have h2 := HR.out.cut (k := m) (cap := c) HM.out HC.out; simp only [Nat.mul_one] at h2; exact reads_block_lt h2 h0 hA); have h3 := BW.out.size; have h4 := G12.out; rcases HFD.out.stp.new b hm with h5 | h5; { have h6 : b = g3 := (by simpa [PL, Value.ownBlock] using h5); omega }; { omega } }) (by have h1 := HN.out; rw [List.length_drop]; omega)).mono ?_
            rintro e w10 ⟨ev, Le, W9, H9, B9, rfl, hLe, FE⟩
            have J := HFD.out.join (c' := Value.slice none 0 0) (w2 := w10) FE
            obtain ⟨A10, c10, hv10, _, _⟩ := ownR_form FE.held.row
            subst hv10
            have HLe := Lib.hid hLe
            have HFE := Lib.hid FE
            have J1 := Lib.hid J.1
            have J2 := Lib.hid J.2.1
            have J3 := Lib.hid J.2.2.1
            have CD : Hid (Ld.length + Le.length ≤ 24000) := (by show _ ≤ _; have h1 := congrArg List.length hLe; rw [List.length_map] at h1; have h2 := F_count (F (zeroP false) (l.take m)).1 (l.drop m); have h3 := congrArg List.length HLd.out; rw [List.length_map] at h3; have h4 := F_count (zeroP false) (l.take m); rw [List.length_drop] at h2; rw [List.length_take] at h4; have h5 := HN.out; omega)
            clear J FE hLe V1 hx_))
        | (at_builtin; go_must (refine app_held (L := Ld) (M := Le) rfl rfl rfl rfl J1.out J2.out rfl J3.out (by have h1 := CD.out; omega) ?_; intro c' w11 hh hg hn; have FN := (HFD.out.join (c' := c') (w2 := w11) HFE.out).2.2.2 hh hg hn; obtain ⟨A11, c11, hv11, _, _⟩ := ownR_form FN.held.row; subst hv11; have HFN := Lib.hid FN; have B11 := Lib.hid (BW.out.trans (FN.below (K := w.heap.size) (by have := G12.out; omega) BW.out.size)); have HA11 := Lib.hid (A8.out.1.frm FN.stp.frm (fun q hq hm => A8.out.2 q hq (by simpa [PL, Value.ownBlock] using hm))); have HC11 := Lib.hid (HFC.out.held.frm FN.stp.frm (fun q hq hm => C8.out q hq (by simpa [PL, Value.ownBlock] using hm))); have P1 := Lib.hid (Q8.out.1.frm FN.stp.frm (fun q hq hm => Q8.out.2 q hq (by simpa [PL, Value.ownBlock] using hm))); have P2 := Lib.hid (HFC.out.par.frm FN.stp.frm (fun q hq hm => D8.out q hq (by simpa [PL, Value.ownBlock] using hm))); clear FN hh hg hn))
        | (go_at_call 13; have hx_ := U3; go_must (refine (ours_any w16 _ rs (by have h_ := (HFN.out.held.below Y16.out).rr; rw [LD.out _ _ HLd.out HLe.out, List.length_append] at h_; exact h_) RLN.out (fun q hq => (RQ.out q hq).1)).mono ?_; rintro e w17 ⟨z4, rfl, r4, hb⟩; obtain ⟨Z4, k4, hz4⟩ := r4.form; subst hz4; have R4 := Lib.hid r4; have Y17 := Lib.hid (Y16.out.trans (hb.mono Y16.out.size)); have X17 := Lib.hid hb; have T2 := hx_; clear r4 hb U3 hx_))
        | (go_at_call 13; have hx_ := U2; go_must (refine (ours_any w15 _ rs (by have h_ := (HA11.out.below Y15.out).rr; rw [LA.out] at h_; exact h_) RLN.out (fun q hq => (RQ.out q hq).1)).mono ?_; rintro e w16 ⟨z3, rfl, r3, hb⟩; obtain ⟨Z3, k3, hz3⟩ := r3.form; subst hz3; have R3 := Lib.hid r3; have Y16 := Lib.hid (Y15.out.trans (hb.mono Y15.out.size)); have U3 := hx_; clear r3 hb U2 hx_))
        | (go_at_call 13; have hx_ := U1; go_must (refine (ours_any w12 _ rs (by have h_ := (HC11.out.below Y12.out).rr; rw [LC.out] at h_; exact h_) RLN.out (fun q hq => (RQ.out q hq).1)).mono ?_; rintro e w13 ⟨z2, rfl, r2, hb⟩; obtain ⟨Z2, k2, hz2⟩ := r2.form; subst hz2; have R2 := Lib.hid r2; have Y13 := Lib.hid (Y12.out.trans (hb.mono Y12.out.size)); have X13 := Lib.hid hb; have T1 := hx_; clear r2 hb U1 hx_))
        | (go_at_call 13; have hx_ := U0; go_must (refine (ours_any w11 _ rs (by have h_ := HA11.out.rr; rw [LA.out] at h_; exact h_) RLN.out (fun q hq => (RQ.out q hq).1)).mono ?_; rintro e w12 ⟨z1, rfl, r1, hb⟩; obtain ⟨Z1, k1, hz1⟩ := r1.form; subst hz1; have R1 := Lib.hid r1; have Y12 := Lib.hid hb; have U1 := hx_; clear r1 hb U0 hx_))
        | (go_at_call 12; have hx_ := T1; go_must (refine (same_any w13 _ _ rs (R1.out.below X13.out) R2.out RLN.out (fun q hq => (RQ.out q hq).1) (fun q hq => (RQ.out q hq).2)).mono ?_; rintro e w15 ⟨rfl, hb⟩; have Y15 := Lib.hid (Y13.out.trans (hb.mono Y13.out.size)); have U2 := hx_; clear hb T1 hx_))
        | (go_at_call 12; have hx_ := T2; go_must (refine (same_any w17 _ _ rs (R3.out.below X17.out) R4.out RLN.out (fun q hq => (RQ.out q hq).1) (fun q hq => (RQ.out q hq).2)).mono ?_; rintro e w18 ⟨rfl, hb⟩; have Y18 := Lib.hid (Y17.out.trans (hb.mono Y17.out.size)); have N0 := hx_; clear hb T2 hx_))
        | (go_at_call 14; have hx_ := N3; go_must (refine (ended_any _ g3 _ _ _ _ (HFN.out.par.below Y18.out)).mono ?_; rintro e w19 ⟨rfl, rfl⟩; rw [E3.out]; clear N3 hx_))
        | (go_at_call 14; have hx_ := N2; go_must (refine (ended_any _ g1 _ _ _ _ (P1.out.below Y18.out)).mono ?_; rintro e w19 ⟨rfl, rfl⟩; rw [E1.out]; have N3 := hx_; clear N2 hx_))
        | (go_at_call 14; have hx_ := N1; go_must (refine (ended_any _ g2 _ _ _ _ (P2.out.below Y18.out)).mono ?_; rintro e w19 ⟨rfl, rfl⟩; rw [E2.out]; have N2 := hx_; clear N1 hx_))
        | (go_at_call 14; have hx_ := N0; go_must (refine (ended_any _ g1 _ _ _ _ (P1.out.below Y18.out)).mono ?_; rintro e w19 ⟨rfl, rfl⟩; rw [E1.out]; have N1 := hx_; clear N0 hx_)))
      all_goals go_ret
      all_goals exact ⟨rfl, B11.out.trans (Y18.out.mono B11.out.size)⟩
end Go.Proofs.YtjichadkonlfpaaDoor
