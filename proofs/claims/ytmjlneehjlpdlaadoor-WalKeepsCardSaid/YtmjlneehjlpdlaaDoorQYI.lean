/- The texts Y14 of this work, merged by wip/merge.py. No conditions. -/
import Derived.Test.YtmjlneehjlpdlaaDoorQYG
import Derived.Test.YtmjlneehjlpdlaaDoorQWX
import Derived.Test.YtmjlneehjlpdlaaDoorQAR
import Derived.Test.YtmjlneehjlpdlaaDoorQAI
import Derived.BigQuiet
namespace Go.Proofs.YtmjlneehjlpdlaaDoor
open Go.RowKit
theorem own8_at {w w' : World} {base : Nat} {v : Value} {l : List UInt8} (h : Own8 w base v l) (hk : ∀ k, v.ownBlock = some k → w'.heap[k]? = w.heap[k]?) : Own8 w' base v l := row_at h hk
theorem own8_some {w : World} {base n : Nat} {v : Value} {l : List UInt8} (h : Own8 w base v l) (hl : l.length = n) (hn : 0 < n) : ∃ g c, v = .slice (some ⟨g, 0, none⟩) n c ∧ base ≤ g ∧ g < w.heap.size ∧ n ≤ c := by
  subst hl; exact row_slice h hn
theorem LG.keep {w w' : World} {base gd gl : Nat} {own : Nat → Prop} {s : DS} {p : Int} {recs : List (List UInt8)} (h : LG w base own gd gl s p recs) (hsz : w.heap.size ≤ w'.heap.size) (hk : ∀ k, own k → w'.heap[k]? = w.heap[k]?) : LG w' base own gd gl s p recs := by
  obtain ⟨od, S, P, rv, vs, h⟩ := h
  exact ⟨od, S, P, rv, vs, h.keep hsz hk⟩
theorem Turns.setCell {own : Nat → Prop} {a w : World} (h : Turns own a w) {g j : Nat} (hg : own g) (v : Value) : Turns own a (w.setCell ⟨g, j, none⟩ v) :=
  ⟨h.os, h.tape, h.output, by simp [World.setCell]; exact h.size, fun k hk hn => (Below.heap_setCell _ _ _ _ (fun e => hn (by rw [e]; exact hg))).trans (h.block k hk hn)⟩
theorem OwnL.form1 {w : World} {base : Nat} {v : Value} {l : List UInt8} (h : OwnL w base v [l]) : ∃ A c, v = .slice A 1 c ∧ 1 ≤ c ∧ Lists w w.heap.size A [l] := h.lists
theorem small_new (s : Int) : ∃ q : Nat, q < 63 ∧ wrap64 (1 + wrap64 ((IntKind.u64.wrap s).tmod 63)) = ((1 + q : Nat) : Int) := by
  have h0 : 0 ≤ IntKind.u64.wrap s := by show 0 ≤ s % 18446744073709551616; omega
  rw [Int.tmod_eq_emod_of_nonneg h0]
  obtain ⟨q, hq⟩ : ∃ q : Nat, (q : Int) = IntKind.u64.wrap s % 63 := ⟨(IntKind.u64.wrap s % 63).toNat, Int.toNat_of_nonneg (by omega)⟩
  refine ⟨q, by omega, ?_⟩
  rw [← hq]
  unfold wrap64
  omega
/-- The record that was handed in, written over. -/
structure InI (w5 wr : World) (B : Nat) (v : Value) (n : Nat) : Prop where
  row : ∃ m, Own8 wr B v m ∧ m.length = n
  turn : Turns (fun k => v.ownBlock = some k) w5 wr
theorem app_1000 (K : List Int) (l : List UInt8) (h : l.length ≤ 1000) : appV K (List.replicate 256 zero64) false 1 [] l = (0, syncAll (List.replicate 256 zero64) (placeL 1 (frameS K 0 l)), 1 + secsN l.length, [l]) := by
  unfold appV
  rw [if_neg (by omega), if_neg (by rw [List.length_replicate]; unfold secsN; rintro (h | h); omega; cases h)]
  rfl
set_option maxRecDepth 100000 in
set_option maxHeartbeats 2000000 in
theorem walKeeps_walk (v0 v1 : Value) (l : List UInt8) (s : Int) (w : World) (a0 : ArgB w v0 l) (a1 : ArgI v1 s) {K : List Int} (hkt : KT w K) :
    Calls Tryd.prog 4 #[v0, v1] w fun e w' => e = .returned (.bool true) ∧ Below w.heap.size w w' := by
  obtain ⟨A, c, rfl, hc, hr, hm⟩ := a0
  obtain ⟨rfl, hs0, hs1⟩ := a1
  rw [reach_eq] at hm
  obtain ⟨n, hnl⟩ : ∃ n, n = l.length := ⟨_, rfl⟩
  rw [← hnl] at hc hr hm ⊢
  have HR := Lib.hid hr
  have Hnl := Lib.hid hnl.symm
  have HK := Lib.hid hkt
  clear hkt hr hnl
  have hmI : (n : Int) ≤ 140737488351232 := by omega
  have hm0 : (0 : Int) ≤ (n : Int) := by omega
  go_enter Tryd.func4, Tryd.ntmps4
  by_cases h1000 : n ≤ 1000
  case neg =>
    have hd : decide ((1000 : Int) < (n : Int)) = true := by simp; omega
    go_wp2_with (first
      | (go_at_call 5; go_must (refine (awake_any K _ HK.out).mono ?_; rintro e w1 ⟨rfl, hb⟩; have HB1 := Lib.hid hb; clear hb))
      | (go_at_call 6; go_must (refine (New_dsk 256 (by omega) (by omega) _).mono ?_; rintro e w2 ⟨gd, S, P, od, rfl, hD, hb⟩; have H2 := Lib.hid (And.intro hD hb); have HB2 := Lib.hid (HB1.out.trans (hb.mono HB1.out.size)); clear hD hb))
      | (go_at_call 7; go_must (refine (opened_any H2.out.1 H2.out.2.size K 1 [] (Lay.fresh K 256 (by omega)) (by simp) (by simp) (by simp) (HK.out.bel HB2.out)).mono ?_; rintro e w3 ⟨gl, own3, rfl, hL, hb3, ho3⟩; have H3 := Lib.hid (And.intro hL (And.intro (HB2.out.trans (hb3.mono HB2.out.size)) ho3)); clear hL hb3 ho3)))
    go_ret
    exact ⟨rfl, H3.out.2.1⟩
  case pos =>
    have hd : decide ((1000 : Int) < (n : Int)) = false := by simp; omega
    have HN : Hid (n ≤ 1000) := h1000
    have hnI : (n : Int) ≤ 1000 := by omega
    have HV : Hid (appV K (List.replicate 256 zero64) false 1 [] l = (0, syncAll (List.replicate 256 zero64) (placeL 1 (frameS K 0 l)), 1 + secsN l.length, [l])) := app_1000 K l (by have := Hnl.out; omega)
    clear h1000
    go_wp2_with (first
      | (go_at_call 5; go_must (refine (awake_any K _ HK.out).mono ?_; rintro e w1 ⟨rfl, hb⟩; have HB1 := Lib.hid hb; clear hb))
      | (go_at_call 6; go_must (refine (New_dsk 256 (by omega) (by omega) _).mono ?_; rintro e w2 ⟨gd, S, P, od, rfl, hD, hb⟩; have H2 := Lib.hid (And.intro hD hb); have HB2 := Lib.hid (HB1.out.trans (hb.mono HB1.out.size)); clear hD hb))
      | (go_at_call 7; go_must (refine (opened_any H2.out.1 H2.out.2.size K 1 [] (Lay.fresh K 256 (by omega)) (by simp) (by simp) (by simp) (HK.out.bel HB2.out)).mono ?_; rintro e w3 ⟨gl, own3, rfl, hL, hb3, ho3⟩; have H3 := Lib.hid (And.intro hL (And.intro (HB2.out.trans (hb3.mono HB2.out.size)) ho3)); clear hL hb3 ho3))
      | (at_builtin; go_must (refine app8 rfl rfl rfl rfl (own8_zero w3 w3.heap.size (Nat.le_refl _)) (HR.out.below (H3.out.2.1.alloc H3.out.2.1.size _)) (by simp; omega) (by simp) ?_; intro v4 w4 hown4 hg4 hx4; have hb4 : Below w3.heap.size w3 w4 := below_own8 ((Below.refl _ _).alloc (Nat.le_refl _) _) (own8_zero w3 w3.heap.size (Nat.le_refl _)) hg4; simp only [List.nil_append] at hown4; obtain ⟨A4, c4, rfl, hc4, hr4⟩ := own8_form' hown4 Hnl.out; have H4 := Lib.hid (And.intro hown4 (And.intro hb4 (And.intro hc4 hr4))); clear hown4 hg4 hx4 hb4 hc4 hr4))
      | (go_at_call 9; go_must (refine (Append_any (H3.out.1.below H4.out.2.1) K A4 n c4 l H4.out.2.2.2 (fun h0_ ad e_ => ?_) H4.out.2.2.1 (by simp) (by omega) (HK.out.bel (H3.out.2.1.trans (H4.out.2.1.mono H3.out.2.1.size)))).mono ?_; (· obtain ⟨g_, c_, e2_, h1_, h2_, _⟩ := own8_some H4.out.1 Hnl.out h0_; cases e2_; cases e_; exact ⟨h2_, fun h_ => Nat.lt_irrefl _ (Nat.lt_of_lt_of_le (H3.out.1.lt h_) h1_)⟩); rintro e w5 ⟨f5, rfl, own5, hL5, hT5, hO5⟩; rw [HV.out] at hL5 ⊢; have H5 := Lib.hid (And.intro hL5 (And.intro hT5 hO5)); clear hL5 hT5 hO5)))
    have HB5 : Hid (Below w.heap.size w w5) := by
      show Below _ _ _
      exact Turns.bel H5.out.2.1 (H3.out.1.below H4.out.2.1) HB1.out.size (H3.out.2.1.trans (H4.out.2.1.mono H3.out.2.1.size))
    have HO : Hid (∀ k, (Value.slice A4 n c4).ownBlock = some k → w3.heap.size ≤ k ∧ k < w4.heap.size ∧ ¬ own3 k ∧ ¬ own5 k) := by
      show ∀ _, _
      intro k hk
      obtain ⟨h1, h2⟩ := own8_lt H4.out.1 k hk
      have h3 : ¬ own3 k := fun h_ => by have := H3.out.1.lt h_; omega
      exact ⟨h1, h2, h3, fun h_ => by rcases H5.out.2.2 k h_ with h4 | h4; exact h3 h4; omega⟩
    have HI5 : Hid (InI w5 w5 w3.heap.size (.slice A4 n c4) n) := ⟨⟨l, own8_at H4.out.1 (fun k hk => H5.out.2.1.block k (HO.out k hk).2.1 (HO.out k hk).2.2.1), Hnl.out⟩, Turns.refl _ _⟩
    go_loopw [49] (fun i wr => ∃ (k : Nat), k ≤ n ∧ i = .int .i64 (k : Int) ∧ Hid (InI w5 wr w3.heap.size (.slice A4 n c4) n)) (fun i _ => n - (intOf i).toNat)
    case atStart => exact ⟨0, Nat.zero_le _, rfl, HI5⟩
    case round =>
      obtain ⟨k, hk, rfl, hI⟩ := hrel
      by_cases hlt : k < n
      · have hlt' : (k : Int) < (n : Int) := by omega
        obtain ⟨m, hown, hml⟩ := hI.out.row
        obtain ⟨g8, c8', hA, hg8, hg8', _⟩ := own8_some hown hml (by omega)
        cases hA
        have hfz := frozen8 hown k
        obtain ⟨y8, hcell⟩ : ∃ y, wr.cell? ⟨g8, k, none⟩ = some y := by
          subst hml
          obtain ⟨y, _, hy⟩ := (row_form hown).2.2 k hlt
          exact ⟨y, hy⟩
        have hst := (store8 hown (k := k) 9 9 rfl).1
        have hnx : Hid (InI w5 (wr.setCell ⟨g8, k, none⟩ (.int .u8 9)) w3.heap.size (.slice (some ⟨g8, 0, none⟩) n c4) n) := ⟨⟨_, hst, by rw [List.length_set]; exact hml⟩, hI.out.turn.setCell rfl _⟩
        clear hI hown hst
        go_wp2
        go_roundw
        case rel => exact ⟨k + 1, by omega, by go_num, hnx⟩
        case measure => simp [intOf]; omega
      · have hkn : n = k := by omega
        subst hkn
        have H6 : Hid (LG wr w1.heap.size own5 gd gl (dst (syncAll (List.replicate 256 zero64) (placeL 1 (frameS K 0 l))) false f5) ((1 + secsN l.length : Nat) : Int) [l]) := by
          show LG _ _ _ _ _ _ _ _
          exact H5.out.1.keep hI.out.turn.size (fun k_ hk_ => hI.out.turn.block k_ (H5.out.1.lt hk_) (fun e_ => (HO.out k_ e_).2.2.2 hk_))
        have HB6 : Hid (Below w.heap.size w wr) := by
          show Below _ _ _
          have hT := hI.out.turn
          exact HB5.out.trans ⟨hT.os, hT.tape, hT.output, hT.size, fun k_ hk_ => hT.block k_ (Nat.lt_of_lt_of_le hk_ HB5.out.size) (fun e_ => by have := (HO.out k_ e_).1; have := H3.out.2.1.size; omega)⟩
        clear hI HI5 hlt hk
        obtain ⟨w6, hw6⟩ : ∃ x, x = wr := ⟨_, rfl⟩
        subst hw6
        go_wp2_with (first
          | (go_at_call 12; go_must (refine (Records_any H6.out (by simp) (by have h_ := Hnl.out; have h2_ := HN.out; simp; omega)).mono ?_; rintro e w8 ⟨v8, rfl, hv8, hb8⟩; obtain ⟨A8, c8, rfl, _, _⟩ := hv8.form1; have H8 := Lib.hid (And.intro hv8 hb8); clear hv8 hb8)))
        obtain ⟨vs0, hmut⟩ := MutV.start H8.out.1 (mid_ := w8.heap.size) rfl (Below.refl _ _) H8.out.2.size
        obtain ⟨f, hf⟩ : ∃ f, (fun i => ([l].getD i []).length) = f := ⟨_, rfl⟩
        have Hf : Hid (∀ k_, k_ < 1 → f k_ = n) := by
          show ∀ _, _
          intro k_ hk_
          obtain rfl : k_ = 0 := by omega
          rw [← hf]; exact Hnl.out
        rw [hf] at hmut
        have HM0 : Hid (MutV w8 w8 w6.heap.size w8.heap.size (.slice A8 1 c8) 1 f vs0) := hmut
        clear hmut hf
        go_loopw [60] (fun i wr => ∃ (k : Nat), k ≤ 1 ∧ i = .int .i64 (k : Int) ∧ Hid (MutV w8 wr w6.heap.size w8.heap.size (.slice A8 1 c8) 1 f vs0)) (fun i _ => 1 - (intOf i).toNat)
        case atStart => exact ⟨0, Nat.zero_le _, rfl, HM0⟩
        case round =>
          clear HM0
          obtain ⟨k, hk, rfl, hM⟩ := hrel
          by_cases hlt : k < 1
          · obtain ⟨gx, cx, hx⟩ : ∃ gx cx, Value.slice A8 1 c8 = .slice (some ⟨gx, 0, none⟩) 1 cx := by
              obtain ⟨gx, cx, _, _, _, hx, _⟩ := hM.out.elt hlt
              exact ⟨gx, cx, hx⟩
            cases hx
            obtain ⟨A7, c7, l7, hcell, hc7, hl7, hv7, hown7, hgx⟩ := hM.out.elt2 hlt (Hf.out k hlt)
            have hlt' : (k : Int) < 1 := by omega
            have HM1 := hM
            clear hv7 hown7 hl7 hM
            go_wp2
            go_loopw [68] (fun i wr => ∃ (j : Nat), j ≤ n ∧ i = .int .i64 (j : Int) ∧ Hid (MutV w8 wr w6.heap.size w8.heap.size (.slice (some ⟨gx, 0, none⟩) 1 c8) 1 f vs0)) (fun i _ => n - (intOf i).toNat)
            case atStart => exact ⟨0, Nat.zero_le _, rfl, HM1⟩
            case round =>
              clear hcell hgx HM1
              obtain ⟨j, hj, rfl, hM1⟩ := hrel
              by_cases hlt2 : j < n
              · obtain ⟨g8, c8', y8, hcell, hcell8, hfz8, hM2⟩ := hM1.out.elt3 hlt (Hf.out k hlt) hlt2 9 9 rfl
                have hlt2' : (j : Int) < (n : Int) := by omega
                go_wp2
                go_roundw
                case rel => exact ⟨j + 1, by omega, by go_num, hM2⟩
                case measure => simp [intOf]; omega
              · go_wp2
                go_roundw
                case rel => exact ⟨k + 1, by omega, by go_num, hM1⟩
                case measure => simp [intOf]; omega
          · have HB8 : Hid (Below w6.heap.size w6 wr) := H8.out.2.trans hM.out.bel
            have HL8 := Lib.hid (H6.out.below HB8.out)
            have HBW8 : Hid (Below w.heap.size w wr) := HB6.out.trans (HB8.out.mono HB6.out.size)
            clear hM
            obtain ⟨w9, hw9⟩ : ∃ x, x = wr := ⟨_, rfl⟩
            subst hw9
            obtain ⟨q, hq1, hq⟩ := small_new s
            have HQ := Lib.hid hq
            clear hq
            go_wp2_with (first
              | (go_at_call 12; go_must (refine (Records_any HL8.out (by simp) (by have h_ := Hnl.out; have h2_ := HN.out; simp; omega)).mono ?_; rintro e w10 ⟨v10, rfl, hv10, hb10⟩; obtain ⟨A10, c10, rfl, _, hls10⟩ := hv10.form1; have H10 := Lib.hid (And.intro hls10 (HBW8.out.trans (hb10.mono HBW8.out.size))); clear hv10 hb10 hls10))
              | (go_at_call 6; go_must (rw [HQ.out]; refine (New_dsk (1 + q) (by omega) (by omega) _).mono ?_; rintro e w11 ⟨gd2, S2, P2, od2, rfl, hD, hb⟩; have H11 := Lib.hid (And.intro hD hb); clear hD hb))
              | (go_at_call_of 13 (Value.pointer none); refine (Open_nil _).mono ?_; rintro e w_ ⟨rfl, hw_⟩; have hw_ := hw_.symm; subst hw_)
              | (go_at_call 13; go_must (refine (Open_small H11.out.1 (by simp [dst]; omega)).mono ?_; rintro e w_ ⟨rfl, hw_⟩; have hw_ := hw_.symm; subst hw_)))
            have HBF : Hid (Below w.heap.size w w11) := H10.out.2.trans (H11.out.2.mono H10.out.2.size)
            obtain ⟨l_, b_, off_, A_, c_, hl_, rfl, hlt_, hcell_, hc_, hr_⟩ := H10.out.1.at_ 0 (by simp)
            have hl1 : l = l_ := hl_.out
            subst hl1
            rw [Hnl.out] at hcell_ hr_ hc_
            have hcl_ : w11.cell? ⟨b_, off_, none⟩ = some (.slice A_ n c_) := (H11.out.2.cell (p := ⟨b_, off_, none⟩) hlt_).trans hcell_
            have ha_ : ∀ (q_ c_ : Nat), (convert 31 9 (.slice A_ n c_)).run Tryd.prog (w11.drewN q_) = .ok (.string ⟨l.toArray⟩) (w11.drewN q_) := fun q_ c_ => run_str8 (w := w11.drewN q_) (B := w10.heap.size) (by have h_ := hr_.below H11.out.2; exact h_) c_
            have hb_ : ∀ (q_ c_ : Nat), (convert 31 9 (.slice A n c_)).run Tryd.prog (w11.drewN q_) = .ok (.string ⟨l.toArray⟩) (w11.drewN q_) := fun q_ c_ => run_str8 (w := w11.drewN q_) (B := w.heap.size) (by have h_ := HR.out.below HBF.out; exact h_) c_
            clear hcell_ hr_ hlt_ hl_
            go_quiet (first
              | (go_at_call 9; exact Calls.quiet_of_same (Append_nil _ _))
              | (go_at_call 14; exact Calls.quiet_of_same (Checkpoint_nil _ _))
              | (go_at_call 12; exact Calls.quiet_of_same (Records_nil _)))
            go_wp2
            go_ret
            exact ⟨rfl, HBF.out.os, HBF.out.tape, HBF.out.output, HBF.out.size, HBF.out.block⟩
end Go.Proofs.YtmjlneehjlpdlaaDoor
