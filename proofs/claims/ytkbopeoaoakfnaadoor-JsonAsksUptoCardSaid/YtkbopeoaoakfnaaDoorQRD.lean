/- The texts RR7 RR8 of this work, merged by wip/merge.py. No conditions. -/
import Derived.Test.YtkbopeoaoakfnaaDoorQRC
import Derived.Test.YtkbopeoaoakfnaaDoorQKB
import Derived.Test.YtkbopeoaoakfnaaDoorQJH
import Derived.Test.YtkbopeoaoakfnaaDoorQTA
import Derived.Test.YtkbopeoaoakfnaaDoorQG
import Derived.IntWalk
import Derived.Laws.ResultCell
import Derived.Deep.MidRow
namespace Go.Proofs.YtkbopeoaoakfnaaDoor
open Go.RowKit
theorem drew_more {w w2 : World} {a : Nat} (h : ∃ n, w2 = (w.drewN a).drewN n) : ∃ n, w2 = w.drewN n := by
  obtain ⟨n, rfl⟩ := h
  exact ⟨a + n, by unfold World.drewN; simp [Nat.add_assoc]⟩
section
variable {w0 w w' : World} {g : Nat} {sb : ByteArray} {k : Nat} {d : Int} {lg : Bool} {s : List UInt8} {st : PS}
set_option maxRecDepth 100000 in
set_option maxHeartbeats 400000 in
/-- here, as a call that only reads. -/
theorem here_q (h : RA w0 g sb w k d lg) (hs : sb = ⟨s.toArray⟩) {c : UInt8} {n : Int} (hn : (c.toNat : Int) = n) (hc : s.getD k 0 = c) : Calls Tryd.prog 63 #[.pointer (some ⟨g, 0, none⟩)] w fun e w' => e = .returned (.int .u8 n) ∧ ∃ j, w' = w.drewN j := by
  subst hn hc
  obtain ⟨c0, c1, c2, c3, fz⟩ := h.cells
  obtain ⟨k0, k1, k2⟩ := h.kI
  have hsz : sb.size = s.length := by rw [hs]; simp [ByteArray.size]
  by_cases hlt : k < sb.size
  · have hd : decide (k < sb.size) = true := by simp; exact hlt
    have hd2 : decide (sb.size ≤ k) = false := by simp; omega
    have hlt' : (k : Int) < (sb.size : Int) := by omega
    have hg : ∀ h0 : k < sb.size, sb[k]'h0 = s.getD k 0 := by
      intro h0
      have hi : k < s.length := by omega
      subst hs
      simp [List.getD, List.getElem?_eq_getElem hi]
      rfl
    clear hs h hsz
    go_enter Tryd.func63, Tryd.ntmps63
    go_wp2
    go_quiet (fail)
    go_wp2
    go_quiet (fail)
    go_wp2
    go_ret
    exact ⟨by first | rfl | simp [hg], by first | exact drew_more ⟨_, rfl⟩ | exact ⟨_, rfl⟩⟩
  · have hd : decide (k < sb.size) = false := by simp; omega
    have hd2 : decide (sb.size ≤ k) = true := by simp; omega
    have hlt' : (sb.size : Int) ≤ (k : Int) := by omega
    have hr : s.getD k 0 = 0 := by simp [List.getD, List.getElem?_eq_none (show s.length ≤ k by omega)]
    rw [hr]
    clear hs h hsz hr
    go_enter Tryd.func63, Tryd.ntmps63
    go_wp2
    go_quiet (fail)
    go_wp2
    go_ret
    exact ⟨by first | rfl | simp, by first | exact drew_more ⟨_, rfl⟩ | exact ⟨_, rfl⟩⟩
theorem RA.grown {row : Option Nat} (h : RA w0 g sb w k d lg) (hg : w.grownBy w' row) (hv : ∀ q, row = some q → w0.heap.size ≤ q) : RA w0 g sb w' k d lg := by
  have hsz := h.turn.size
  refine ⟨(hg.block g (lt_of_heap h.obj) (fun e => ?_)).trans h.obj, ⟨hg.os.trans h.turn.os, hg.tape.trans h.turn.tape, hg.output.trans h.turn.output, Nat.le_trans hsz hg.size, fun q hq hn => (hg.block q (by omega) (fun e => ?_)).trans (h.turn.block q hq hn)⟩, h.lt, h.len8, h.le⟩
  · have := hv g e.symm; have := h.lt; omega
  · have := hv q e.symm; omega
theorem RA.glt (h : RA w0 g sb w k d lg) : g < w.heap.size := lt_of_heap h.obj
theorem RA.size (h : RA w0 g sb w k d lg) : w0.heap.size ≤ w.heap.size := h.turn.size
/-- Memory of the call's own stays where only the reader turned. -/
theorem own8_turn {base : Nat} {v : Value} {l : List UInt8} (h : Own8 w base v l) (ht : Turn g w w') (hg : g < base) : Own8 w' base v l :=
  own_keep h (fun q hq => ht.block q (World.ownsRow.lt h q hq).2 (by have := (World.ownsRow.lt h q hq).1; omega))
theorem own8_set {base : Nat} {v : Value} {l : List UInt8} (h : Own8 w base v l) (hg : g < base) (x : Value) (j : Nat) : Own8 (w.setCell ⟨g, j, none⟩ x) base v l := own8_turn h ((Turn.refl g w).setCell x) hg
theorem own8_drewN {base : Nat} {v : Value} {l : List UInt8} (h : Own8 w base v l) (n : Nat) : Own8 (w.drewN n) base v l := h
theorem own8_str {base : Nat} {A : Option Addr} {n c : Nat} {l : List UInt8} (h : Own8 w base (.slice A n c) l) : (convert 64 9 (.slice A n c)).run Tryd.prog w = .ok (.string ⟨l.toArray⟩) w := by
  obtain ⟨A', c', e, _, hR⟩ := own8_form h
  cases e
  exact run_str8 hR _
theorem StrPost.lift {S : List UInt8} {st' : PS} {e : Ending} (h : RA w0 g sb w k d lg) (h2 : StrPost w g sb st' S e w') : StrPost w0 g sb st' S e w' := by
  obtain ⟨ok, x, h1, h2, h3⟩ := h2
  exact ⟨ok, x, h1, h2.lift h, h3⟩
theorem must_yes (h : st.sees s 34 = true) : st.must s 34 = st.to (st.at_ + 1) := by unfold PS.must; rw [if_pos h]; rfl
theorem must_no (h : st.sees s 34 = false) : st.must s 34 = st.fail st.at_ 2 := by unfold PS.must; rw [if_neg (by rw [h]; decide)]
theorem text_no (h : st.sees s 34 = false) : st.text s = st.fail st.at_ 2 := by
  unfold PS.text
  rw [must_no h, if_neg (PS.fail_ne _ _ _)]
theorem resc_yes {x : List UInt8} {k' : Nat} (h : RA w0 g sb w k d lg) (hs : sb = ⟨s.toArray⟩) (he : escP s k = some (x, k')) : Calls Tryd.prog 89 #[.pointer (some ⟨g, 0, none⟩)] w fun e w' => e = .returned (.tuple #[.string ⟨x.toArray⟩, .bool true]) ∧ RA w0 g sb w' k' d lg := by
  refine (resc_at h hs).mono ?_
  rintro e w' (⟨x', k2, h1, h2, h3⟩ | ⟨h1, _⟩)
  · rw [he] at h1; cases h1; exact ⟨h2, h3⟩
  · rw [he] at h1; cases h1
theorem resc_no (h : RA w0 g sb w k d lg) (hs : sb = ⟨s.toArray⟩) (he : escP s k = none) : Calls Tryd.prog 89 #[.pointer (some ⟨g, 0, none⟩)] w fun e w' => ∃ y, e = .returned (.tuple #[.string y, .bool false]) ∧ RA w0 g sb w' k d lg := by
  refine (resc_at h hs).mono ?_
  rintro e w' (⟨x', k2, h1, _⟩ | ⟨_, h2⟩)
  · rw [he] at h1; cases h1
  · exact h2
/-- The rounds of text. -/
def RTI (w : World) (g : Nat) (sb : ByteArray) (s : List UInt8) (d : Int) (T : Option (List UInt8) × Nat) (v : Value) (wr : World) : Prop :=
  ∃ (pos : Nat) (acc : List UInt8), Own8 wr w.heap.size v acc ∧ RA w g sb wr pos d false ∧ acc.length ≤ 4 * pos ∧ textT s pos acc = T
set_option maxRecDepth 100000 in
set_option maxHeartbeats 1000000 in
theorem rtext_self (h : RA w g sb w st.at_ st.depth false) (hf : st.fault = none) (hs : sb = ⟨s.toArray⟩) : Calls Tryd.prog 66 #[.pointer (some ⟨g, 0, none⟩)] w fun e w' => StrPost w g sb (st.text s) (st.textV s) e w' := by
  have HS := Lib.hid hs
  have HSZ : Hid (sb.size = s.length) := by show _ = _; rw [hs]; simp [ByteArray.size]
  have H := Lib.hid h
  obtain ⟨c0, c1, c2, c3, fz⟩ := h.cells
  obtain ⟨k0, k1, k2⟩ := h.kI
  have hse := sees_getD (st := st) (s := s) (c := 34) (by decide)
  obtain ⟨b, hb⟩ : ∃ b : UInt8, b = s.getD st.at_ 0 := ⟨_, rfl⟩
  rw [← hb] at hse
  have HB := Lib.hid hb.symm
  by_cases h34 : b = 34
  · have hsee : st.sees s 34 = true := by rw [hse, h34]; rfl
    have hlt : st.at_ < s.length := getD_lt (by rw [← hb, h34]; decide)
    have hlI : (st.at_ : Int) < (sb.size : Int) := by have := HSZ.out; omega
    have dg : decide (sb.size ≤ st.at_) = false := by have := HSZ.out; simp; omega
    have hat : decide ((st.at_ : Int) ≥ (sb.size : Int)) = false := by simp; omega
    have q34 : ((b.toNat : Int) != 34) = false := by rw [h34]; rfl
    have HMU := Lib.hid (must_yes hsee)
    have HF0 : Hid ((st.must s 34).fault = none) := by show _ = _; rw [HMU.out]; exact hf
    have HLT := Lib.hid hlt
    -- what the fault is
    have FAIL : Hid (∀ (wx : World) (x : ByteArray) (j : Nat), RA w g sb wx j st.depth false → st.textOf s = (none, j) → StrPost w g sb (st.text s) (st.textV s) (.returned (.tuple #[.string x, .bool false])) wx) := by
      intro wx x j h1 h2
      refine StrPost.no (k := j) (d' := st.depth) ?_ h1
      rw [(text_fail HF0.out h2).1, PS.fail_none (show ((st.must s 34).to j).fault = none from HF0.out)]
    have YES : Hid (∀ (wx : World) (x : List UInt8) (j : Nat), RA w g sb wx j st.depth false → st.textOf s = (some x, j) → StrPost w g sb (st.text s) (st.textV s) (.returned (.tuple #[.string ⟨x.toArray⟩, .bool true])) wx) := by
      intro wx x j h1 h2
      obtain ⟨e1, e2⟩ := text_ok HF0.out h2
      rw [e1, e2]
      refine StrPost.yes HF0.out ?_ rfl
      show RA w g sb wx j (st.must s 34).depth false
      rw [PS.must_depth]
      exact h1
    obtain ⟨T, hT⟩ : ∃ T, T = st.textOf s := ⟨_, rfl⟩
    rw [← hT] at FAIL YES
    have HT0 : Hid (textT s (st.at_ + 1) [] = T) := by show _ = _; rw [hT]; unfold PS.textOf; rw [HMU.out]; rfl
    clear hs h hse hb hsee hlt HMU HF0 hf hT h34
    go_enter Tryd.func66, Tryd.ntmps66
    go_wp2
    go_quiet ((exact (here_q (H.out.drewN _) HS.out (by rfl) HB.out).mono fun e w2 h => ⟨h.1, drew_more h.2⟩))
    go_wp2
    go_loopw [4] (fun v wr => RTI w g sb s st.depth T v wr) (fun _ wr => s.length - rdAt wr g)
    case atStart => exact ⟨st.at_ + 1, [], own8_nil _ _, RA.putz (H.out.drewN _) (by omega) (by have := HLT.out; have := HSZ.out; omega), Nat.zero_le _, HT0.out⟩
    case round =>
      obtain ⟨pos, acc, hO, hR, hacc, hTT⟩ := hrel
      obtain ⟨A, cc, rfl, hAc, hRd⟩ := own8_form hO
      obtain ⟨e0, e1, e2, e3, ez⟩ := hR.cells
      obtain ⟨m0, m1, m2⟩ := hR.kI
      have hrd := hR.rd
      have hglt := H.out.glt
      clear c0 c1 c2 c3 fz k0 k1 k2 hlI dg hat q34 hAc hRd HT0
      by_cases hp : pos < s.length
      · obtain ⟨c, hc⟩ : ∃ c, s[pos]? = some c := ⟨_, List.getElem?_eq_getElem hp⟩
        obtain ⟨hl1, hg1⟩ := here1 HS.out hc
        have dp : decide (pos < sb.size) = true := by simp; exact hl1
        have hpI : (pos : Int) < (sb.size : Int) := by omega
        have hopen := textT_open (s := s) (k := pos) (out := acc)
        rw [hTT, hc] at hopen
        dsimp only at hopen
        have HO := Lib.hid hO
        have HR := Lib.hid hR
        have HACC := Lib.hid hacc
        have HP := Lib.hid hp
        have HGL := Lib.hid hglt
        have HRD := Lib.hid hrd
        have HPS : Hid (pos + 1 ≤ sb.size) := by show _ ≤ _; have := HSZ.out; omega
        have hlt256 := c.toNat_lt
        clear hO hR hacc hp hTT hl1 hglt hrd
        by_cases c34 : c = 34
        · rw [if_pos c34] at hopen
          have HT := Lib.hid hopen
          clear hopen
          subst c34
          have STR : Hid (∀ n : Nat, (convert 64 9 (.slice A acc.length cc)).run Tryd.prog ((wr.drewN n).setCell ⟨g, 1, none⟩ (.int .i64 ((pos : Int) + 1))) = .ok (.string ⟨acc.toArray⟩) ((wr.drewN n).setCell ⟨g, 1, none⟩ (.int .i64 ((pos : Int) + 1)))) := fun n => own8_str (own8_set (base := w.heap.size) (own8_drewN HO.out n) HGL.out _ 1)
          have str := STR.out
          go_wp2
          go_quiet (fail)
          go_wp2
          go_quiet (fail)
          go_wp2
          go_ret2
          refine YES.out _ _ (pos + 1) ?_ HT.out
          exact RA.putz (HR.out.drewN _) (by omega) HPS.out
        rw [if_neg c34] at hopen
        have q34 : ((c.toNat : Int) == 34) = false := ne_num c34
        by_cases c32 : c.toNat < 32
        · rw [if_pos c32] at hopen
          have HT := Lib.hid hopen
          have d32 : decide ((c.toNat : Int) < 32) = true := by simp; omega
          clear hopen c32 c34 hlt256
          go_wp2
          go_quiet (fail)
          go_wp2
          go_quiet (fail)
          go_wp2
          go_ret2
          exact FAIL.out _ _ pos (HR.out.drewN _) HT.out
        rw [if_neg c32] at hopen
        have d32 : decide ((c.toNat : Int) < 32) = false := by simp; omega
        by_cases c92 : c = 92
        · rw [if_pos c92] at hopen
          subst c92
          cases hE : escP s pos with
          | none =>
            rw [hE] at hopen
            have HT := Lib.hid hopen
            have HE := Lib.hid hE
            clear hopen hE c34 c32 hlt256
            go_wp2
            go_quiet (fail)
            go_wp2
            go_quiet (fail)
            go_wp2_with (go_at_call 89; go_must (refine (resc_no (HR.out.drewN _) HS.out HE.out).mono ?_; rintro e w2 ⟨y, rfl, h2⟩))
            go_ret2
            exact FAIL.out _ _ pos h2 HT.out
          | some xk =>
            obtain ⟨x, k'⟩ := xk
            rw [hE] at hopen
            have HT := Lib.hid hopen
            have HE := Lib.hid hE
            have HX := Lib.hid (And.intro (escP_x hE) (escP_le hE))
            clear hopen hE c34 c32 hlt256
            go_wp2
            go_quiet (fail)
            go_wp2
            go_quiet (fail)
            go_wp2_with (first
              | (go_at_call 89; go_must (refine (resc_yes (HR.out.drewN _).self HS.out HE.out).mono ?_; rintro e w2 ⟨rfl, h2⟩; have H2 := Lib.hid (RA.lift (HR.out.drewN _) h2); have O2 := Lib.hid (own8_turn (own8_drewN HO.out _) h2.turn HGL.out); clear h2))
              | (at_builtin; go_must (refine appS8 (l := acc) (news := x) (base := w.heap.size) rfl rfl rfl rfl O2.out (by have h1_ := HACC.out; have h2_ := HX.out.1; have h3_ := HPS.out; have h4_ := H.out.len8; omega) H2.out.size ?_; intro v5 w5 ho hg5)))
            have H5 := Lib.hid (H2.out.grown hg5 (fun q hq => (World.ownsRow.lt O2.out q hq).1))
            go_roundw
            case rel => exact ⟨k', acc ++ x, ho, H5.out, by rw [List.length_append]; have h1_ := HACC.out; have h2_ := HX.out; omega, HT.out.symm⟩
            case measure => rw [H5.out.rd, HRD.out]; have h1_ := HX.out.2; have h2_ := HP.out; omega
        rw [if_neg c92] at hopen
        have q92 : ((c.toNat : Int) == 92) = false := ne_num c92
        have hst : StrAt sb pos (s.drop pos) := by rw [HS.out]; exact strAt s pos HP.out
        have HRU := Lib.hid (rune_any hst (by have := H.out.len8; omega))
        have hrl := runeW_le (s.drop pos)
        rw [List.length_drop] at hrl
        obtain ⟨n, hn⟩ : ∃ n, n = runeW (s.drop pos) := ⟨_, rfl⟩
        rw [← hn] at HRU hopen hrl
        by_cases hz : n = 0
        · rw [if_pos hz] at hopen
          have HT := Lib.hid hopen
          subst hz
          clear hopen c34 c32 c92 hlt256 hst hrl hn
          go_wp2
          go_quiet (fail)
          go_wp2
          go_quiet (fail)
          go_wp2
          go_quiet ((exact (HRU.out _).mono fun e w2 h => ⟨h.1, _, h.2⟩))
          go_wp2
          go_ret2
          exact FAIL.out _ _ pos (HR.out.drewN _) HT.out
        · rw [if_neg hz] at hopen
          have HT := Lib.hid hopen
          have qz : ((n : Int) == 0) = false := by simp; omega
          have hn1 : (1 : Int) ≤ (n : Int) := by omega
          have hnl : (pos : Int) + (n : Int) ≤ (sb.size : Int) := by have h2_ := HSZ.out; have h3_ := HP.out; omega
          have HNL := Lib.hid (show pos + n ≤ sb.size ∧ 1 ≤ n by omega)
          have hxs : sb.extract pos (pos + n) = ⟨((s.drop pos).take n).toArray⟩ := by rw [HS.out, extract_mid, Nat.add_sub_cancel_left]
          have hsf := fun w => slice_fact sb pos (pos + n) (by omega) (by omega) (pos : Int) ((pos : Int) + (n : Int)) rfl (by simp) w
          rw [hxs] at hsf
          have HLN := Lib.hid (show ((s.drop pos).take n).length ≤ n by rw [List.length_take]; omega)
          clear hopen c34 c32 c92 hlt256 hst hrl hn hz hxs
          go_wp2
          go_quiet (fail)
          go_wp2
          go_quiet (fail)
          go_wp2
          go_quiet ((exact (HRU.out _).mono fun e w2 h => ⟨h.1, _, h.2⟩))
          go_wp2
          have hwr : IntKind.i64.wrap ((pos : Int) + (n : Int)) = (pos : Int) + (n : Int) := IntWalk.i64_in _ (by have h_ := H.out.len8; omega)
          refine wp_quiet_tail 16 (by kernel_rfl) (by kernel_rfl) ?_
          simp only [List.take_succ_cons, List.take_zero, List.drop_succ_cons, List.drop_zero]
          repeat (go_big_quiet_step (fail))
          clear hwr
          have hs9 : (pos : Int) + (n : Int) ≤ 8192 := by have h_ := H.out.len8; omega
          refine wpQuiet_nil ?_
          go_wp2_with (at_builtin; go_loud (refine appS8 (l := acc) (news := (s.drop pos).take n) (base := w.heap.size) rfl rfl rfl rfl HO.out (by have h1_ := HACC.out; have h2_ := HLN.out; have h3_ := HNL.out.1; have h4_ := H.out.len8; omega) HR.out.size ?_; intro v5 w5 ho hg5; have H5 := Lib.hid (RA.grown ((HR.out.drewN _).drewN 1) hg5 (fun q hq => (World.ownsRow.lt HO.out q hq).1)); have O5 := Lib.hid ho; obtain ⟨f0, f1, f2, f3, f5⟩ := H5.out.cells; clear ho hg5))
          have H6 := Lib.hid (RA.putz (z := (pos : Int) + (n : Int)) H5.out (k' := pos + n) (by omega) HNL.out.1)
          go_roundw
          case rel => exact ⟨pos + n, acc ++ (s.drop pos).take n, own8_set O5.out HGL.out _ 1, H6.out, by rw [List.length_append]; have h1_ := HACC.out; have h2_ := HLN.out; omega, HT.out.symm⟩
          case measure => rw [H6.out.rd, HRD.out]; have h1_ := HNL.out.2; have h2_ := HP.out; omega
      · have hc : s[pos]? = none := List.getElem?_eq_none (by omega)
        have hopen := textT_open (s := s) (k := pos) (out := acc)
        rw [hTT, hc] at hopen
        have HT := Lib.hid hopen
        have HR := Lib.hid hR
        have dp : decide (pos < sb.size) = false := by have := HSZ.out; simp; omega
        have hpI : (sb.size : Int) ≤ (pos : Int) := by have := HSZ.out; omega
        clear hopen hc hTT hO hacc hp hR
        go_wp2
        go_quiet (fail)
        go_wp2
        go_ret2
        exact FAIL.out _ _ pos (HR.out.drewN _) HT.out
  · have hsee : st.sees s 34 = false := by rw [hse]; simp [h34]
    have q34 : ((b.toNat : Int) != 34) = true := by have h_ := ne_num h34; rw [bne, show ((b.toNat : Int) == 34) = false from h_]; rfl
    have HT := Lib.hid (text_no hsee)
    have HF := Lib.hid hf
    clear hs h hse hb hsee hf h34
    go_enter Tryd.func66, Tryd.ntmps66
    go_wp2
    go_quiet ((exact (here_q (H.out.drewN _) HS.out (by rfl) HB.out).mono fun e w2 h => ⟨h.1, drew_more h.2⟩))
    go_wp2
    go_ret2
    refine StrPost.no (k := st.at_) (d' := st.depth) ?_ (H.out.drewN _)
    rw [HT.out, PS.fail_none HF.out]
theorem rtext_at (h : RA w0 g sb w st.at_ st.depth false) (hf : st.fault = none) (hs : sb = ⟨s.toArray⟩) : Calls Tryd.prog 66 #[.pointer (some ⟨g, 0, none⟩)] w fun e w' => StrPost w0 g sb (st.text s) (st.textV s) e w' :=
  (rtext_self h.self hf hs).mono fun _ _ h2 => h2.lift h
end
end Go.Proofs.YtkbopeoaoakfnaaDoor

namespace Go.Proofs.YtkbopeoaoakfnaaDoor
open Go.RowKit
mutual
/-- A value as the reference's tree. -/
def jt : JV → TR
  | .nil => .mk 0 false [] [] []
  | .null => .mk 0 false [] [] []
  | .bool b => .mk 1 b [] [] []
  | .num s => .mk 2 false s [] []
  | .text s => .mk 3 false s [] []
  | .list l => .mk 4 false [] [] (jtL l)
  | .obj ks l => .mk 5 false [] ks (jtL l)
def jtL : List JV → List TR
  | [] => []
  | j :: l => jt j :: jtL l
end
theorem jtL_map : ∀ l, jtL l = l.map jt
  | [] => rfl
  | j :: l => by rw [jtL, jtL_map l]; rfl
theorem jtL_snoc (l : List JV) (j : JV) : jtL (l ++ [j]) = jtL l ++ [jt j] := by simp [jtL_map]
theorem jtL_len (l : List JV) : (jtL l).length = l.length := by simp [jtL_map]
/-- What the reader's value, list and object leave. -/
def TrPost (w0 w : World) (g : Nat) (sb : ByteArray) (p : JV × PS) (e : Ending) (w' : World) : Prop :=
  ∃ (ok : Bool) (us : List Value) (t : TR), e = .returned (.tuple #[.agg us.toArray, .bool ok]) ∧ IsT w' (fun k => w.heap.size ≤ k ∧ k < w'.heap.size) us t ∧ RPost w0 g sb p.2 ok w' ∧ (ok = true → t = jt p.1)
section
variable {w0 w w' : World} {g : Nat} {sb : ByteArray} {k : Nat} {d : Int} {lg : Bool} {s : List UInt8} {st : PS}
theorem RPost.no6 {st' : PS} {k : Nat} {d' : Int} (hf : st'.fault = some ((k : Int), 6)) (h : RA w0 g sb w' k d' true) : RPost w0 g sb st' false w' := .inr ⟨k, 6, d', hf, .inr rfl, rfl, h⟩
theorem open_deep (hd : 16 < st.depth + 1) (hf : st.fault = none) : (st.open_ s).fault = some ((st.at_ : Int), 6) := by
  show st.openA.fault = _
  unfold PS.openA
  rw [if_pos hd, PS.fail_none (show st.deeper.fault = none from hf)]
theorem open_flat (hd : ¬ 16 < st.depth + 1) : st.open_ s = (st.deeper.to (st.at_ + 1)).blanks s := by
  unfold PS.open_ PS.openA
  rw [if_neg hd]
set_option maxRecDepth 100000 in
set_option maxHeartbeats 400000 in
theorem ropen_deep (h : RA w0 g sb w k d false) (hd : 16 < d + 1) (hd1 : d ≤ 100) : Calls Tryd.prog 88 #[.pointer (some ⟨g, 0, none⟩)] w fun e w' => e = .returned (.bool false) ∧ RA w0 g sb w' k (d + 1) true := by
  have H := Lib.hid h
  obtain ⟨c0, c1, c2, c3, fz⟩ := h.cells
  obtain ⟨k0, k1, k2⟩ := h.kI
  have hdd : decide (d + 1 > 16) = true := by simp; omega
  clear h
  go_enter Tryd.func88, Tryd.ntmps88
  go_wp2
  go_ret
  exact ⟨rfl, (H.out.putD (d + 1)).putL true⟩
set_option maxRecDepth 100000 in
set_option maxHeartbeats 400000 in
theorem ropen_flat (h : RA w0 g sb w k d false) (hs : sb = ⟨s.toArray⟩) (hd0 : 0 ≤ d) (hd : ¬ 16 < d + 1) (hlt : k < s.length) : Calls Tryd.prog 88 #[.pointer (some ⟨g, 0, none⟩)] w fun e w' => e = .returned (.bool true) ∧ RA w0 g sb w' (k + 1 + runB blankB (s.drop (k + 1))) (d + 1) false := by
  have HS := Lib.hid hs
  have HLT : Hid (k + 1 ≤ sb.size) := by
    have hz : sb.size = s.length := by rw [hs]; simp [ByteArray.size]
    show _ ≤ _; omega
  have H := Lib.hid h
  obtain ⟨c0, c1, c2, c3, fz⟩ := h.cells
  obtain ⟨k0, k1, k2⟩ := h.kI
  have hdd : decide (d + 1 > 16) = false := by simp; omega
  have hd9 : d < 16 := by omega
  clear hs h hlt
  go_enter Tryd.func88, Tryd.ntmps88
  go_wp2_with (go_at_call 34; go_must (refine (rblanks_at (RA.putz (H.out.putD (d + 1)) (k' := k + 1) (by omega) HLT.out) HS.out).mono ?_; rintro e w2 ⟨rfl, h2⟩))
  go_ret
  exact ⟨rfl, h2⟩
/-- A struct's result cell and a second result. -/
theorem results_row_tmp {P : Program} {fn : Func} {p u : Tmp} {ty : TypeId} (h : fn.results = #[.cell p ty, .tmp u]) (tmps : Array Value) (w : World) (b : Nat) (t : TypeId) (cs : Array Value) (fr : Nat × Nat) (d : TypeDesc)
    (hp : tmps.getD p undef = .pointer (some ⟨b, 0, none⟩)) (hg : w.heap[b]? = some (.cells cs t fr))
    (hu : P.underlying ty = some d) (hd : (match d with | .struct _ | .array _ _ => true | _ => false) = true) (hi : (P.info? ty).map (·.size) = some cs.size) :
    (results fn tmps).run P w = .ok (.tuple #[.agg cs, tmps.getD u undef]) w := by
  rw [results_cell_tmp h, hp]
  have e1 : (asAddr (.pointer (some ⟨b, 0, none⟩))).run P w = .ok ⟨b, 0, none⟩ w := by simp [asAddr]
  rw [e1, Result.andThen_ok, run_loadVar_row w b t ty cs fr d hg hu hd hi, Result.andThen_ok]
theorem IsT.form {F : Nat → Prop} {us : List Value} {t : TR} (h : IsT w F us t) : ∃ (k : Int) (b : Bool) (s : List UInt8) (Ak : Option Addr) (nk ck : Nat) (Ap : Option Addr) (np cp : Nat), us = [.int .i64 k, .bool b, .string ⟨s.toArray⟩, .slice Ak nk ck, .slice Ap np cp] := by
  cases h with
  | mk k b s Ak ck ks Ap cp uss ps => exact ⟨k, b, s, Ak, _, ck, Ap, _, cp, rfl⟩
theorem RPost.true_ {st' : PS} {ok : Bool} (h : RPost w0 g sb st' ok w') (hf : st'.fault = none) : ok = true ∧ RA w0 g sb w' st'.at_ st'.depth false := by
  rcases h with ⟨_, h2, h3⟩ | ⟨k, e, d', h1, _⟩
  · exact ⟨h2, h3⟩
  · rw [hf] at h1; cases h1
theorem RPost.false_ {st' : PS} {ok : Bool} (h : RPost w0 g sb st' ok w') (hf : st'.fault ≠ none) : ok = false ∧ ∃ (k : Nat) (e d' : Int), st'.fault = some ((k : Int), e) ∧ (e = 2 ∨ e = 6) ∧ RA w0 g sb w' k d' (e == 6) := by
  rcases h with ⟨h1, _⟩ | ⟨k, e, d', h1, h2, h3, h4⟩
  · exact absurd h1 hf
  · exact ⟨h3, k, e, d', h1, h2, h4⟩
theorem RPost.fault_eq {st' st2 : PS} {w2 : World} {k : Nat} {e d' : Int} (h1 : st'.fault = some ((k : Int), e)) (h2 : e = 2 ∨ e = 6) (h3 : RA w0 g sb w2 k d' (e == 6)) (he : st2.fault = st'.fault) : RPost w0 g sb st2 false w2 := .inr ⟨k, e, d', by rw [he, h1], h2, rfl, h3⟩
theorem heap_turn {b : Nat} {o : Obj} (h : w.heap[b]? = some o) (ht : Turn g w w') (hb : b ≠ g) : w'.heap[b]? = some o := (ht.block b (lt_of_heap h) hb).trans h
theorem TT.turn {lo : Nat} {kv pv : Value} {ks : List (List UInt8)} {uss : List (List Value)} {ps : List TR} (h : TT w lo kv pv ks uss ps) (ht : Turn g w w') (hg : g < lo) : TT w' lo kv pv ks uss ps := h.keep ht.size (fun k h1 h2 => ht.block k h2 (by omega))
theorem row5 {b : Nat} {a0 a1 a2 a3 a4 : Value} {t : TypeId} (h : w.heap[b]? = some (.cells #[a0, a1, a2, a3, a4] t (0, 0))) : w.cell? ⟨b, 0, none⟩ = some a0 ∧ w.cell? ⟨b, 1, none⟩ = some a1 ∧ w.cell? ⟨b, 2, none⟩ = some a2 ∧ w.cell? ⟨b, 3, none⟩ = some a3 ∧ w.cell? ⟨b, 4, none⟩ = some a4 ∧ ∀ i, w.frozen? ⟨b, i, none⟩ = false :=
  ⟨cell_of_row w b 0 _ _ _ h, cell_of_row w b 1 _ _ _ h, cell_of_row w b 2 _ _ _ h, cell_of_row w b 3 _ _ _ h, cell_of_row w b 4 _ _ _ h, fun i => frozen_row h i⟩
/-- Five cells written. -/
def set5 (w : World) (b : Nat) (a0 a1 a2 a3 a4 : Value) : World := ((((w.setCell ⟨b, 0, none⟩ a0).setCell ⟨b, 1, none⟩ a1).setCell ⟨b, 2, none⟩ a2).setCell ⟨b, 3, none⟩ a3).setCell ⟨b, 4, none⟩ a4
theorem set5_row {b : Nat} {a0 a1 a2 a3 a4 c0 c1 c2 c3 c4 : Value} {t : TypeId} (h : w.heap[b]? = some (.cells #[c0, c1, c2, c3, c4] t (0, 0))) : (set5 w b a0 a1 a2 a3 a4).heap[b]? = some (.cells #[a0, a1, a2, a3, a4] t (0, 0)) := by
  have e1 := heap_setCell_same w b 0 _ _ a0 h
  have e2 := heap_setCell_same _ b 1 _ _ a1 e1
  have e3 := heap_setCell_same _ b 2 _ _ a2 e2
  have e4 := heap_setCell_same _ b 3 _ _ a3 e3
  exact heap_setCell_same _ b 4 _ _ a4 e4
theorem set5_turn {b : Nat} {a0 a1 a2 a3 a4 : Value} : Turn b w (set5 w b a0 a1 a2 a3 a4) := ((((Turn.refl b w).setCell a0).setCell a1).setCell a2).setCell a3 |>.setCell a4
theorem RA.free {b : Nat} (h : RA w0 g sb w k d lg) (ht : Turn b w w') (hb : w0.heap.size ≤ b) : RA w0 g sb w' k d lg :=
  ⟨heap_turn h.obj ht (by have := h.lt; omega), ⟨ht.os.trans h.turn.os, ht.tape.trans h.turn.tape, ht.output.trans h.turn.output, Nat.le_trans h.turn.size ht.size, fun q hq hn => (ht.block q (Nat.lt_of_lt_of_le hq h.turn.size) (by omega)).trans (h.turn.block q hq hn)⟩, h.lt, h.len8, h.le⟩
/-- What a list or an object leaves, behind the copy of its tree into the result. -/
theorem TrPost.done {p : JV × PS} {ok : Bool} {B lo : Nat} {kk : Int} {bb : Bool} {ss : List UInt8} {kv pv : Value} {ks : List (List UInt8)} {uss : List (List Value)} {ps : List TR} {wx : World}
    (hT : TT wx lo kv pv ks uss ps) (hB : B < lo) (hlo : w.heap.size ≤ lo) (hP : RPost w0 g sb p.2 ok (set5 wx B (.int .i64 kk) (.bool bb) (.string ⟨ss.toArray⟩) kv pv)) (hok : ok = true → .mk kk bb ss ks ps = jt p.1) :
    TrPost w0 w g sb p (.returned (.tuple #[.agg #[.int .i64 kk, .bool bb, .string ⟨ss.toArray⟩, kv, pv], .bool ok])) (set5 wx B (.int .i64 kk) (.bool bb) (.string ⟨ss.toArray⟩) kv pv) :=
  ⟨ok, _, _, rfl, ((hT.turn set5_turn hB).isT kk bb ss).keep (fun _ _ => rfl) (fun _ hq => ⟨Nat.le_trans hlo hq.1, hq.2⟩), hP, hok⟩
end
end Go.Proofs.YtkbopeoaoakfnaaDoor
