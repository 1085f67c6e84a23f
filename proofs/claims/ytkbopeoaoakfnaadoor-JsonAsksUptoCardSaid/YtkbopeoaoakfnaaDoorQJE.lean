/- The texts JT1 of this work, merged by wip/merge.py. No conditions. -/
import Derived.Test.YtkbopeoaoakfnaaDoorQJD
import Derived.Test.YtkbopeoaoakfnaaDoorQP
import Derived.Deep.CutBlock
import Derived.Deep.CutRange
namespace Go.Proofs.YtkbopeoaoakfnaaDoor
open Go.RowKit
section
variable {w0 w w' : World} {base g B b : Nat} {s l : List UInt8} {st st' : PS}
theorem TB.below (h : TB w0 base g s B b w st l) (hb : Below w.heap.size w w') : TB w0 base g s B b w' st l := h.step (h.self.below hb)
theorem fresh_bd (w : World) : Bd (w.alloc (.cells #[.pointer none, .slice none 0 0] 66)) w.heap.size w.heap.size [] := Lib.IsBuilderF.of (Lib.fresh_isBuilder 66 5 w)
theorem must_tb (c : UInt8) (n : Int) (hn : (c.toNat : Int) = n) (h : TB w0 base g s B b w st l) : Calls Tryd.prog 81 #[.pointer (some ⟨g, 0, none⟩), .int .u8 n] w fun x w' => x = .returned (.tuple #[]) ∧ TB w0 base g s B b w' (st.must s c) l := by
  subst hn
  exact (must_at h.self c).mono fun _ _ ⟨h1, h2⟩ => ⟨h1, h.step h2⟩
/-- How far a reading of text may still go. -/
def textMeas (g : Nat) (w : World) : Nat :=
  (match w.cell? ⟨g, 1, none⟩ with | some (.int _ a) => 2 * (10000 - a.toNat) | _ => 0) + (match w.cell? ⟨g, 3, none⟩ with | some (.pointer none) => 1 | _ => 0)
theorem textMeas_run (h : At w0 base g s w st) (hf : st.fault = none) : textMeas g w = 2 * (10000 - st.at_) + 1 := by
  unfold textMeas
  rw [h.cells.2.1, h.ps.none_ hf]
  simp
theorem textMeas_fail (h : At w0 base g s w st) (hf : st.fault ≠ none) : textMeas g w = 2 * (10000 - st.at_) := by
  unfold textMeas
  rw [h.cells.2.1]
  obtain ⟨fp, h3, h4⟩ := h.fault
  rw [h3]
  cases fp with
  | none => simp at h4; exact absurd h4 hf
  | some a => simp
/-- Between two rounds: the text is read so far, or it has failed. -/
def TextI (w0 : World) (base g : Nat) (s : List UInt8) (B : Nat) (st : PS) (w : World) : Prop :=
  (∃ (k : Nat) (acc : List UInt8), (st.must s 34).fault = none ∧ TB w0 base g s B B w ((st.must s 34).to k) acc ∧ acc.length ≤ 4 * k ∧ textT s k acc = st.textOf s) ∨
  ((st.text s).fault ≠ none ∧ st.textV s = [] ∧ At w0 base g s w (st.text s))
theorem text_fail {j : Nat} (h0 : (st.must s 34).fault = none) (h : st.textOf s = (none, j)) : st.text s = ((st.must s 34).to j).fail (j : Int) 2 ∧ st.textV s = [] := by
  unfold PS.text PS.textV
  rw [if_pos h0, if_pos h0, h]
  exact ⟨rfl, rfl⟩
theorem text_ok {j : Nat} {x : List UInt8} (h0 : (st.must s 34).fault = none) (h : st.textOf s = (some x, j)) : st.text s = (st.must s 34).to j ∧ st.textV s = x := by
  unfold PS.text PS.textV
  rw [if_pos h0, if_pos h0, h]
  exact ⟨rfl, rfl⟩
theorem failI {P0 : PS} {k j : Nat} (hF : st.text s = ((st.must s 34).to j).fail (j : Int) 2 ∧ st.textV s = []) (hP : P0 = st.must s 34) (h : At w0 base g s w (((P0.to k).to j).fail (j : Int) 2)) : TextI w0 base g s B st w := by
  subst hP
  refine .inr ⟨by rw [hF.1]; exact PS.fail_ne _ _ _, hF.2, h.cast ?_⟩
  rw [hF.1]
  rfl
theorem failM {P0 : PS} {k j : Nat} {a : Int} {wr : World} (hm : textMeas g wr = 2 * (10000 - k) + 1) (hk : k ≤ j) (h : At w0 base g s w (((P0.to k).to j).fail a 2)) : textMeas g w < textMeas g wr := by
  rw [hm, textMeas_fail h (PS.fail_ne _ _ _), PS.fail_at]
  show 2 * (10000 - j) < _
  omega
theorem escP_x {s : List UInt8} {k : Nat} {x : List UInt8} {k' : Nat} (h : escP s k = some (x, k')) : x.length ≤ 4 := by
  have he : ∀ r : Int, (Lib.encodeRune r).length ≤ 4 := fun r => by
    have := (Lib.runeCells_le r).2
    rwa [Lib.runeCells_length] at this
  unfold escP at h
  split at h
  · cases h; simp
  · unfold escU at h
    split at h
    · split at h
      · cases h; exact he _
      · cases h
    · split at h
      · cases h
      · cases h; exact he _
set_option maxRecDepth 100000 in
set_option maxHeartbeats 800000 in
theorem text_at (h : At w0 base g s w st) : Calls Tryd.prog 60 #[.pointer (some ⟨g, 0, none⟩)] w fun x w' => x = .returned (.string ⟨(st.textV s).toArray⟩) ∧ At w0 base g s w' (st.text s) := by
  have h0 := h.below ((Below.refl _ _).alloc (Nat.le_refl _) (.cells #[.pointer none, .slice none 0 0] 66))
  have hT : TB w0 base g s w.heap.size w.heap.size (w.alloc (.cells #[.pointer none, .slice none 0 0] 66)) st [] := ⟨h0, fresh_bd w, h.turn.size⟩
  clear h0
  go_enter Tryd.func60, Tryd.ntmps60
  go_wp2_with (go_at_call 81; go_must (refine (must_tb 34 34 rfl hT).mono ?_; rintro e w1 ⟨rfl, t1⟩))
  go_loopw [] (fun wr => TextI w0 base g s w.heap.size st wr) (fun wr => textMeas g wr)
  case atStart =>
    by_cases hm : (st.must s 34).fault = none
    · exact .inl ⟨(st.must s 34).at_, [], hm, t1, by simp, rfl⟩
    · have e1 : st.text s = st.must s 34 := by unfold PS.text; rw [if_neg hm]
      exact .inr ⟨by rw [e1]; exact hm, by unfold PS.textV; rw [if_neg hm], by rw [e1]; exact t1.par⟩
  case round =>
    rcases hrel with ⟨k, acc, hmf, hTB, hacc, htx⟩ | ⟨hff, hfv, hAt⟩
    · obtain ⟨P0, hP0⟩ : ∃ P0, P0 = st.must s 34 := ⟨_, rfl⟩
      rw [← hP0] at hmf hTB
      have HP0 := Lib.hid hP0
      have HTX := Lib.hid htx
      have HACC := Lib.hid hacc
      have hfk : (P0.to k).fault = none := hmf
      have hkl : k ≤ s.length := hTB.par.ps.len
      have hl8 := hTB.par.len8
      obtain ⟨fp, c3, hfp⟩ := hTB.par.fault
      obtain ⟨c0, c1, c2, fz⟩ := hTB.cells
      have hd0 : decide ((P0.to k).fault = none) = true := by simp [hfk]
      rw [hd0] at hfp
      have HM := Lib.hid (textMeas_run hTB.par hfk)
      have HMF := Lib.hid hmf
      clear hP0 hmf htx hacc hd0
      go_upto_block 2 with (go_at_call 57; go_must (refine (rest_tb hTB).mono ?_; rintro e wA ⟨rfl, tA⟩))
      rw [show (P0.to k).at_ = k from rfl]
      go_cut [4] from 10 to 82 (fun v w' => ∃ n : Nat, v = .int .i64 (n : Int) ∧ TB w0 base g s w.heap.size w.heap.size w' (P0.to k) acc ∧ k + n ≤ s.length ∧ textT s k acc = textT s (k + n) (acc ++ (s.drop k).take n) ∧ (∀ c, s[k + n]? = some c → c = 34 ∨ c.toNat < 32 ∨ c = 92 ∨ runeW (s.drop (k + n)) = 0))
      case first =>
        go_wp2_with fail
        obtain ⟨R, hR⟩ : ∃ R : ByteArray, R = ⟨(s.drop k).toArray⟩ := ⟨_, rfl⟩
        have hRz : R.size = s.length - k := by rw [hR]; simp [ByteArray.size]
        rw [← hR]
        have HR := Lib.hid hR
        clear hR
        go_loopw [4] (fun v wx => ∃ pos : Nat, v = .int .i64 (pos : Int) ∧ pos ≤ R.size ∧ wx.heap[wA.heap.size]? = some (.stringIter R pos) ∧ Below wA.heap.size wA wx ∧ textT s k acc = textT s (k + pos) (acc ++ (s.drop k).take pos)) (fun _ wx => R.size - wx.iterPos wA.heap.size)
        case atStart => exact ⟨0, rfl, by omega, World.iter_heap wA _ 0, below_iter wA _ 0, by simp⟩
        case round =>
          obtain ⟨pos, rfl, hpos, hit, hbw, htxt⟩ := hrel
          by_cases hp : pos < R.size
          · have hkp : k + pos < s.length := by omega
            have hnx : ∀ ty, (Instr.next (.pointer (some ⟨wA.heap.size, 0, none⟩)) true ty).run Tryd.prog wr = _ := fun ty => Lib.run_next_any_at wr wA.heap.size R pos ty hit hp
            have hdec : Utf8.decode R pos = Lib.decodeL (s.drop (k + pos)) := by
              rw [← Lib.decodeL_drop, HR.out]
              simp
            obtain ⟨c, hc⟩ : ∃ c, s[k + pos]? = some c := ⟨_, List.getElem?_eq_getElem hkp⟩
            have hcons : s.drop (k + pos) = c :: s.drop (k + pos + 1) := by
              rw [List.drop_eq_getElem_cons hkp]
              rw [List.getElem?_eq_getElem hkp] at hc
              rw [Option.some.inj hc]
            obtain ⟨r, wd, hrw⟩ : ∃ r wd, Lib.decodeL (s.drop (k + pos)) = (r, wd) := ⟨_, _, rfl⟩
            have hit2 := Lib.iterAt_heap wr wA.heap.size R pos (pos + wd) hit
            have hbw2 := Lib.below_iterAt hbw (Nat.le_refl _) R (pos + wd)
            rw [hdec, hrw] at hnx
            have HC := Lib.hid hc
            have HTXT := Lib.hid htxt
            have HKP := Lib.hid hkp
            have hne : s.drop (k + pos) ≠ [] := by rw [hcons]; simp
            have HSTOP : (c = 34 ∨ c.toNat < 32 ∨ c = 92 ∨ runeW (s.drop (k + pos)) = 0) → ∀ c', s[k + pos]? = some c' → c' = 34 ∨ c'.toNat < 32 ∨ c' = 92 ∨ runeW (s.drop (k + pos)) = 0 := by
              intro h1 c' h2
              rw [HC.out] at h2
              cases h2
              exact h1
            have HST := Lib.hid HSTOP
            have tB := tA.below hbw2
            clear hc htxt HSTOP hdec
            -- a rune that stands as it is
            have goOn : ∀ wx : World, wx.heap[wA.heap.size]? = some (.stringIter R (pos + wd)) → Below wA.heap.size wA wx → c ≠ 34 → ¬ c.toNat < 32 → c ≠ 92 → runeW (s.drop (k + pos)) = wd → wd ≠ 0 →
                (∃ pos' : Nat, Value.int .i64 ((pos : Int) + (wd : Int)) = .int .i64 (pos' : Int) ∧ pos' ≤ R.size ∧ wx.heap[wA.heap.size]? = some (.stringIter R pos') ∧ Below wA.heap.size wA wx ∧ textT s k acc = textT s (k + pos') (acc ++ (s.drop k).take pos')) := by
              intro wx h1 h2 n1 n2 n3 hw hw0
              have hwle := runeW_le (s.drop (k + pos))
              rw [List.length_drop, hw] at hwle
              refine ⟨pos + wd, by go_num, by omega, h1, h2, ?_⟩
              rw [HTXT.out, textT_rune HC.out n1 n2 n3 (by rw [hw]; exact hw0), hw, List.append_assoc, take_more, Nat.add_assoc]
            have HGO := Lib.hid goOn
            clear goOn
            by_cases hasc : c.toNat < 128
            · have h1 := dl_ascii c (s.drop (k + pos + 1)) hasc
              rw [← hcons, hrw] at h1
              obtain ⟨rfl, rfl⟩ := Prod.mk.inj h1
              have hW := runeW_ascii c (s.drop (k + pos + 1)) hasc
              rw [← hcons] at hW
              by_cases e34 : c = 34
              · subst e34
                go_wp2
                go_meet
                case rel => exact ⟨pos, rfl, tB, by omega, HTXT.out, HST.out (by simp)⟩
              by_cases e92 : c = 92
              · subst e92
                go_wp2
                go_meet
                case rel => exact ⟨pos, rfl, tB, by omega, HTXT.out, HST.out (by simp)⟩
              have q34 : ((c.toNat : Int) == 34) = false := by
                simp only [beq_eq_false_iff_ne, ne_eq]
                intro h_
                exact e34 (UInt8.toNat_inj.1 (by show c.toNat = 34; omega))
              have q92 : ((c.toNat : Int) == 92) = false := by
                simp only [beq_eq_false_iff_ne, ne_eq]
                intro h_
                exact e92 (UInt8.toNat_inj.1 (by show c.toNat = 92; omega))
              obtain ⟨z, hz⟩ : ∃ z : Nat, z = c.toNat := ⟨_, rfl⟩
              rw [← hz] at hnx q34 q92 hasc
              have HZ := Lib.hid hz
              by_cases e32 : c.toNat < 32
              · have d32 : decide ((z : Int) < 32) = true := by simp; omega
                clear hz
                go_wp2
                go_meet
                case rel => exact ⟨pos, rfl, tB, by omega, HTXT.out, HST.out (.inr (.inl e32))⟩
              · have d32 : decide ((z : Int) < 32) = false := by simp; omega
                have dfd : ((z : Int) == 65533) = false := by simp; omega
                have HLEN := Lib.hid (show Lib.runeLen (z : Int) = 1 by unfold Lib.runeLen; rw [if_neg (by omega), if_pos (by omega)])
                clear hz
                go_wp2_with (go_at_call 84; go_must (refine (Tryd.utf8_RuneLen (z : Int) _).mono ?_; rw [HLEN.out]; rintro e w_ ⟨rfl, hw_⟩; have hw_ := hw_.symm; subst hw_))
                go_roundw
                case rel => exact HGO.out _ hit2 hbw2 e34 e32 e92 hW (by decide)
                case measure => simp only [World.iterPos, hit2, hit]; omega
            · have hhi := dl_high c (s.drop (k + pos + 1)) (by omega)
              rw [← hcons, hrw] at hhi
              simp only at hhi
              have n34 : c ≠ 34 := fun e => by subst e; exact hasc (by decide)
              have n92 : c ≠ 92 := fun e => by subst e; exact hasc (by decide)
              have n32 : ¬ c.toNat < 32 := by omega
              have hwd := Lib.decodeL_width (s.drop (k + pos))
              rw [hrw] at hwd
              simp only at hwd
              by_cases hbad : r = 65533
              · subst hbad
                have h0 : (0 : Int) ≤ (pos : Int) := by omega
                have h1 : (pos : Int) ≤ (R.size : Int) := by omega
                have hex : R.extract pos (s.length - k) = ⟨(s.drop (k + pos)).toArray⟩ := by
                  rw [← hRz, HR.out, extract_drop, List.drop_drop]
                have HEX := Lib.hid hex
                obtain ⟨pf, hpf⟩ : ∃ pf, pf = Lib.hasPrefix (s.drop (k + pos)) [239, 191, 189] := ⟨_, rfl⟩
                have HPF := Lib.hid hpf
                have HRW := Lib.hid hrw
                clear hex hpf hrw hcons hne
                cases pf with
                | true =>
                  have hW := runeW_err HPF.out.symm
                  have hE := dl_err HPF.out.symm
                  rw [HRW.out] at hE
                  obtain ⟨_, rfl⟩ := Prod.mk.inj hE
                  have HLEN := Lib.hid (show Lib.runeLen (65533 : Int) = 3 by decide)
                  go_wp2_with (first
                    | (go_at_call 57; go_must (have tl := rest_tb tB; rw [show (P0.to k).at_ = k from rfl, ← HR.out] at tl; have tl2 := (rest_any tB.par.ps); refine tl2.mono ?_; clear tl tl2; rw [show (P0.to k).at_ = k from rfl, ← HR.out]; rintro e w5 ⟨rfl, n5, hw5⟩; have it5 := hit2; have bw5 := hbw2.trans (below_drewN' (B := wA.heap.size) hw5); rw [show wA.heap.size = wA.heap.size from rfl] at it5; have it6 : w5.heap[wA.heap.size]? = some (.stringIter R (pos + 3)) := (by subst hw5; exact hit2); clear hw5))
                    | (go_at_call 83; go_must (rw [HEX.out]; refine (Tryd.strings_HasPrefix _ _ _).mono ?_; rw [show Lib.hasPrefix (⟨(s.drop (k + pos)).toArray⟩ : ByteArray).data.toList (⟨#[239, 191, 189]⟩ : ByteArray).data.toList = true from by rw [HPF.out]]; rintro e w_ ⟨rfl, hw_⟩; have hw_ := hw_.symm; subst hw_))
                    | (go_at_call 84; go_must (refine (Tryd.utf8_RuneLen 65533 _).mono ?_; rw [HLEN.out]; rintro e w_ ⟨rfl, hw_⟩; have hw_ := hw_.symm; subst hw_)))
                  go_roundw
                  case rel => exact HGO.out _ it6 bw5 n34 n32 n92 hW (by decide)
                  case measure => simp only [World.iterPos, it6, hit]; omega
                | false =>
                  have hW := runeW_bad (by rw [HRW.out]) HPF.out.symm
                  go_wp2_with (first
                    | (go_at_call 57; go_must (have tl2 := (rest_any tB.par.ps); refine tl2.mono ?_; clear tl2; rw [show (P0.to k).at_ = k from rfl, ← HR.out]; rintro e w5 ⟨rfl, n5, hw5⟩; have bw5 := hbw2.trans (below_drewN' (B := wA.heap.size) hw5); clear hw5))
                    | (go_at_call 83; go_must (rw [HEX.out]; refine (Tryd.strings_HasPrefix _ _ _).mono ?_; rw [show Lib.hasPrefix (⟨(s.drop (k + pos)).toArray⟩ : ByteArray).data.toList (⟨#[239, 191, 189]⟩ : ByteArray).data.toList = false from by rw [HPF.out]]; rintro e w_ ⟨rfl, hw_⟩; have hw_ := hw_.symm; subst hw_)))
                  go_meet
                  case rel => exact ⟨pos, rfl, tA.below bw5, by omega, HTXT.out, HST.out (.inr (.inr (.inr hW)))⟩
              · have hW := runeW_other hne (by rw [hrw]; exact hbad)
                rw [hrw] at hW
                simp only at hW
                have hln := Lib.runeLen_decode (s.drop (k + pos)) (by rw [hrw]; exact hbad)
                rw [hrw] at hln
                have HLEN := Lib.hid hln
                have q34 : ((r : Int) == 34) = false := by simp; omega
                have q92 : ((r : Int) == 92) = false := by simp; omega
                have d32 : decide ((r : Int) < 32) = false := by simp; omega
                have dfd : ((r : Int) == 65533) = false := by simp; omega
                have hb8 : (pos : Int) + (wd : Int) ≤ 8192 := by have h_ := runeW_le (s.drop (k + pos)); rw [List.length_drop, hW] at h_; omega
                have hb0 : (0 : Int) ≤ (pos : Int) + (wd : Int) := by omega
                clear hln hrw hcons hne
                go_wp2_with (go_at_call 84; go_must (refine (Tryd.utf8_RuneLen (r : Int) _).mono ?_; rw [HLEN.out]; rintro e w_ ⟨rfl, hw_⟩; have hw_ := hw_.symm; subst hw_))
                go_roundw
                case rel => exact HGO.out _ hit2 hbw2 n34 n32 n92 hW (by omega)
                case measure => simp only [World.iterPos, hit2, hit]; omega
          · have hnx : ∀ ty, (Instr.next (.pointer (some ⟨wA.heap.size, 0, none⟩)) true ty).run Tryd.prog wr = _ := fun ty => Lib.run_next_end_at wr wA.heap.size R pos ty hit hp
            go_wp2
            go_meet
            case rel => exact ⟨pos, rfl, tA.below hbw, by omega, htxt, fun c hc => by rw [List.getElem?_eq_none (by omega)] at hc; cases hc⟩
      case rest =>
        obtain ⟨n, rfl, tC, hkn, htxn, hst⟩ := hcut
        clear c0 c1 c2 fz c3 hfp
        obtain ⟨R, hR⟩ : ∃ R : ByteArray, R = ⟨(s.drop k).toArray⟩ := ⟨_, rfl⟩
        have hRz : R.size = s.length - k := by rw [hR]; simp [ByteArray.size]
        have hx0 : R.extract 0 n = ⟨((s.drop k).take n).toArray⟩ := by rw [hR, extract_mid]; simp
        have hn0 : (0 : Int) ≤ (n : Int) := by omega
        have hnR : (n : Int) ≤ (R.size : Int) := by omega
        have hk0 : (0 : Int) ≤ (k : Int) := by omega
        have hkn8 : (k : Int) + (n : Int) ≤ 8192 := by omega
        have hlen : acc.length + ((s.drop k).take n).length ≤ 1000000 := by
          have := HACC.out
          rw [List.length_take, List.length_drop]
          omega
        have hlen4 : (acc ++ (s.drop k).take n).length ≤ 4 * (k + n) := by
          have := HACC.out
          rw [List.length_append, List.length_take, List.length_drop]
          omega
        have HR := Lib.hid hR
        have HX0 := Lib.hid hx0
        have HL := Lib.hid hlen
        have HL4 := Lib.hid hlen4
        have HKN := Lib.hid hkn
        have HTN := Lib.hid (HTX.out.symm.trans htxn)
        have hfkn : ((P0.to k).to (k + n)).fault = none := HMF.out
        clear hR hRz hx0 hlen hlen4 htxn
        cases hsn : s[k + n]? with
        | none =>
          have hdn : s.drop (k + n) = [] := List.drop_eq_nil_of_le (by
            rcases Nat.lt_or_ge (k + n) s.length with h' | h'
            · rw [List.getElem?_eq_getElem h'] at hsn; cases hsn
            · exact h')
          have hT2 : st.textOf s = (none, k + n) := by rw [HTN.out, textT_open, hsn]
          have hsee : ((P0.to k).to (k + n)).sees s 34 = false := by unfold PS.sees; show (s[k + n]? == some 34) = false; rw [hsn]; rfl
          have HF := Lib.hid (text_fail (by rw [← HP0.out]; exact HMF.out) hT2)
          have HSEE := Lib.hid hsee
          have hnxs := PS.next_no hsee
          have HNX := Lib.hid hnxs
          clear hsn hst hT2 hsee hnxs hkn
          go_wp2_with (first
            | (go_at_call 57; have hx_ := t4; go_must (have tz := rest_tb t4; rw [show ((P0.to k).to (k + n)).at_ = k + n from rfl, hdn] at tz; refine tz.mono ?_; clear tz; rintro e w5 ⟨rfl, t5⟩))
            | (go_at_call 57; go_must (have tz := rest_tb tC; rw [show (P0.to k).at_ = k from rfl, ← HR.out] at tz; refine tz.mono ?_; clear tz; rintro e w2 ⟨rfl, t2⟩))
            | (go_at_call 50; go_must (rw [HX0.out]; refine (writeString_tb t2 hfk _ HL.out).mono ?_; rintro e w3 ⟨rfl, t3⟩; obtain ⟨d0_, d1_, d2_, dz_⟩ := t3.cells; rw [show (P0.to k).at_ = k from rfl] at d1_; have t4 := t3.put (k := k + n) HKN.out; have E4 := Lib.hid (show ((k + n : Nat) : Int) = (k : Int) + (n : Int) by omega); rw [E4.out] at t4))
            | (go_at_call 86; go_must (refine (next_tb 34 34 rfl t5).mono ?_; rw [HSEE.out, HNX.out]; rintro e w6 ⟨rfl, t6⟩; obtain ⟨x0_, x1_, x2_, xz_⟩ := t6.cells; rw [show ((P0.to k).to (k + n)).at_ = k + n from rfl, E4.out] at x1_))
            | (go_at_call 33; go_must (refine (fail_tb t6 _ _).mono ?_; rintro e w7 ⟨rfl, t7⟩)))
          go_roundw
          case rel => exact failI HF.out HP0.out (by rw [E4.out]; exact t7.par)
          case measure => exact failM HM.out (Nat.le_add_right _ _) t7.par
        | some c =>
          have hkl2 : k + n < s.length := by
            rcases Nat.lt_or_ge (k + n) s.length with h' | h'
            · exact h'
            · rw [List.getElem?_eq_none h'] at hsn; cases hsn
          obtain ⟨tl, hdn⟩ : ∃ tl, s.drop (k + n) = c :: tl := ⟨_, by
            rw [List.drop_eq_getElem_cons hkl2]
            rw [List.getElem?_eq_getElem hkl2] at hsn
            rw [Option.some.inj hsn]⟩
          by_cases e92 : c = 92
          · subst e92
            have HSN := Lib.hid hsn
            cases hesc : escP s (k + n) with
            | none =>
              have hT2 : st.textOf s = (none, k + n) := by rw [HTN.out, textT_open, hsn]; dsimp only; rw [if_neg (by decide), if_neg (by decide), if_pos rfl, hesc]
              have HF := Lib.hid (text_fail (by rw [← HP0.out]; exact HMF.out) hT2)
              have HESC := Lib.hid hesc
              clear hsn hst hT2 hkn hesc
              go_wp2_with (first
                | (go_at_call 57; have hx_ := t4; go_must (have tz := rest_tb t4; rw [show ((P0.to k).to (k + n)).at_ = k + n from rfl, hdn] at tz; refine tz.mono ?_; clear tz; rintro e w5 ⟨rfl, t5⟩))
                | (go_at_call 57; go_must (have tz := rest_tb tC; rw [show (P0.to k).at_ = k from rfl, ← HR.out] at tz; refine tz.mono ?_; clear tz; rintro e w2 ⟨rfl, t2⟩))
                | (go_at_call 50; go_must (rw [HX0.out]; refine (writeString_tb t2 hfk _ HL.out).mono ?_; rintro e w3 ⟨rfl, t3⟩; obtain ⟨d0_, d1_, d2_, dz_⟩ := t3.cells; rw [show (P0.to k).at_ = k from rfl] at d1_; have t4 := t3.put (k := k + n) HKN.out; have E4 := Lib.hid (show ((k + n : Nat) : Int) = (k : Int) + (n : Int) by omega); rw [E4.out] at t4))
                | (go_at_call 85; go_must (have te := escape_any t5 hfkn (by have := HL4.out; have := HKN.out; omega); unfold EscPost at te; rw [show ((P0.to k).to (k + n)).at_ = k + n from rfl, HESC.out] at te; refine te.mono ?_; clear te; rintro e w7 ⟨rfl, t7⟩)))
              go_roundw
              case rel => exact failI HF.out HP0.out t7.par
              case measure => exact failM HM.out (Nat.le_add_right _ _) t7.par
            | some xk =>
              obtain ⟨x, k'⟩ := xk
              have hx4 := escP_x hesc
              have hkk := escP_le hesc
              have hT3 : textT s k' ((acc ++ (s.drop k).take n) ++ x) = st.textOf s := by rw [HTN.out]; conv => rhs; rw [textT_open, hsn]; dsimp only; rw [if_neg (by decide), if_neg (by decide), if_pos rfl, hesc]
              have HT3 := Lib.hid hT3
              have HESC := Lib.hid hesc
              clear hsn hst hkn hesc hT3
              go_wp2_with (first
                | (go_at_call 57; have hx_ := t4; go_must (have tz := rest_tb t4; rw [show ((P0.to k).to (k + n)).at_ = k + n from rfl, hdn] at tz; refine tz.mono ?_; clear tz; rintro e w5 ⟨rfl, t5⟩))
                | (go_at_call 57; go_must (have tz := rest_tb tC; rw [show (P0.to k).at_ = k from rfl, ← HR.out] at tz; refine tz.mono ?_; clear tz; rintro e w2 ⟨rfl, t2⟩))
                | (go_at_call 50; go_must (rw [HX0.out]; refine (writeString_tb t2 hfk _ HL.out).mono ?_; rintro e w3 ⟨rfl, t3⟩; obtain ⟨d0_, d1_, d2_, dz_⟩ := t3.cells; rw [show (P0.to k).at_ = k from rfl] at d1_; have t4 := t3.put (k := k + n) HKN.out; have E4 := Lib.hid (show ((k + n : Nat) : Int) = (k : Int) + (n : Int) by omega); rw [E4.out] at t4))
                | (go_at_call 85; go_must (have te := escape_any t5 hfkn (by have := HL4.out; have := HKN.out; omega); unfold EscPost at te; rw [show ((P0.to k).to (k + n)).at_ = k + n from rfl, HESC.out] at te; refine te.mono ?_; clear te; rintro e w7 ⟨rfl, t7, hk7⟩)))
              go_roundw
              case rel =>
                refine .inl ⟨k', (acc ++ (s.drop k).take n) ++ x, by rw [← HP0.out]; exact HMF.out, by rw [← HP0.out]; exact t7, ?_, HT3.out⟩
                have := HL4.out
                rw [List.length_append]
                omega
              case measure =>
                have h8 := textMeas_run t7.par HMF.out
                rw [HM.out, h8]
                show 2 * (10000 - k') + 1 < 2 * (10000 - k) + 1
                omega
          · have q92 : ∀ h0 : 0 < (⟨(c :: tl).toArray⟩ : ByteArray).size, ((((⟨(c :: tl).toArray⟩ : ByteArray)[0]'h0).toNat : Int) == 92) = false := by
              intro h0
              show ((c.toNat : Int) == 92) = false
              simp only [beq_eq_false_iff_ne, ne_eq]
              intro h_
              exact e92 (UInt8.toNat_inj.1 (by show c.toNat = 92; omega))
            by_cases e34 : c = 34
            · subst e34
              have hT2 : st.textOf s = (some (acc ++ (s.drop k).take n), k + n + 1) := by rw [HTN.out, textT_open, hsn]; rfl
              have hsee : ((P0.to k).to (k + n)).sees s 34 = true := by unfold PS.sees; show (s[k + n]? == some 34) = true; rw [hsn]; rfl
              have HF := Lib.hid (text_ok (by rw [← HP0.out]; exact HMF.out) hT2)
              have HSEE := Lib.hid hsee
              have hnxs := PS.next_yes hsee
              have HNX := Lib.hid hnxs
              clear hsn hst hT2 hsee hnxs hkn
              go_wp2_with (first
                | (go_at_call 57; have hx_ := t4; go_must (have tz := rest_tb t4; rw [show ((P0.to k).to (k + n)).at_ = k + n from rfl, hdn] at tz; refine tz.mono ?_; clear tz; rintro e w5 ⟨rfl, t5⟩))
                | (go_at_call 57; go_must (have tz := rest_tb tC; rw [show (P0.to k).at_ = k from rfl, ← HR.out] at tz; refine tz.mono ?_; clear tz; rintro e w2 ⟨rfl, t2⟩))
                | (go_at_call 50; go_must (rw [HX0.out]; refine (writeString_tb t2 hfk _ HL.out).mono ?_; rintro e w3 ⟨rfl, t3⟩; obtain ⟨d0_, d1_, d2_, dz_⟩ := t3.cells; rw [show (P0.to k).at_ = k from rfl] at d1_; have t4 := t3.put (k := k + n) HKN.out; have E4 := Lib.hid (show ((k + n : Nat) : Int) = (k : Int) + (n : Int) by omega); rw [E4.out] at t4))
                | (go_at_call 86; go_must (refine (next_tb 34 34 rfl t5).mono ?_; rw [HSEE.out, HNX.out]; rintro e w6 ⟨rfl, t6⟩))
                | (go_at_call 29; go_must (refine (string_tb t6 HMF.out).mono ?_; rintro e w7 ⟨rfl, t7⟩)))
              go_ret
              rw [HF.out.1, HF.out.2, ← HP0.out]
              exact ⟨rfl, t7.par⟩
            · have hbad : c.toNat < 32 ∨ runeW (s.drop (k + n)) = 0 := by
                rcases hst c hsn with h1 | h1 | h1 | h1
                · exact absurd h1 e34
                · exact .inl h1
                · exact absurd h1 e92
                · exact .inr h1
              have hT2 : st.textOf s = (none, k + n) := by
                rw [HTN.out, textT_open, hsn]
                dsimp only
                rw [if_neg e34]
                by_cases h32 : c.toNat < 32
                · rw [if_pos h32]
                · rw [if_neg h32, if_neg e92, if_pos (hbad.resolve_left h32)]
              have hsee : ((P0.to k).to (k + n)).sees s 34 = false := by unfold PS.sees; show (s[k + n]? == some 34) = false; rw [hsn]; simp [e34]
              have HF := Lib.hid (text_fail (by rw [← HP0.out]; exact HMF.out) hT2)
              have HSEE := Lib.hid hsee
              have hnxs := PS.next_no hsee
              have HNX := Lib.hid hnxs
              clear hsn hst hT2 hsee hnxs hkn hbad
              go_wp2_with (first
                | (go_at_call 57; have hx_ := t4; go_must (have tz := rest_tb t4; rw [show ((P0.to k).to (k + n)).at_ = k + n from rfl, hdn] at tz; refine tz.mono ?_; clear tz; rintro e w5 ⟨rfl, t5⟩))
                | (go_at_call 57; go_must (have tz := rest_tb tC; rw [show (P0.to k).at_ = k from rfl, ← HR.out] at tz; refine tz.mono ?_; clear tz; rintro e w2 ⟨rfl, t2⟩))
                | (go_at_call 50; go_must (rw [HX0.out]; refine (writeString_tb t2 hfk _ HL.out).mono ?_; rintro e w3 ⟨rfl, t3⟩; obtain ⟨d0_, d1_, d2_, dz_⟩ := t3.cells; rw [show (P0.to k).at_ = k from rfl] at d1_; have t4 := t3.put (k := k + n) HKN.out; have E4 := Lib.hid (show ((k + n : Nat) : Int) = (k : Int) + (n : Int) by omega); rw [E4.out] at t4))
                | (go_at_call 86; go_must (refine (next_tb 34 34 rfl t5).mono ?_; rw [HSEE.out, HNX.out]; rintro e w6 ⟨rfl, t6⟩; obtain ⟨x0_, x1_, x2_, xz_⟩ := t6.cells; rw [show ((P0.to k).to (k + n)).at_ = k + n from rfl, E4.out] at x1_))
                | (go_at_call 33; go_must (refine (fail_tb t6 _ _).mono ?_; rintro e w7 ⟨rfl, t7⟩)))
              go_roundw
              case rel => exact failI HF.out HP0.out (by rw [E4.out]; exact t7.par)
              case measure => exact failM HM.out (Nat.le_add_right _ _) t7.par
    · obtain ⟨fp, c3, hfp⟩ := hAt.fault
      have hd0 : decide ((st.text s).fault = none) = false := by simp [hff]
      rw [hd0] at hfp
      have HV := Lib.hid hfv
      clear hd0 hff hfv
      go_wp2
      go_ret
      rw [HV.out]
      exact ⟨rfl, hAt⟩
end
end Go.Proofs.YtkbopeoaoakfnaaDoor
