/- The texts JT3 of this work, merged by wip/merge.py. No conditions. -/
import Derived.Test.YtkbopeoaoakfnaaDoorQTA
import Derived.Test.YtkbopeoaoakfnaaDoorQKB
namespace Go.Proofs.YtkbopeoaoakfnaaDoor
open Go.RowKit
theorem quoteD_ge : ∀ (n : Nat) (s : List UInt8), s.length ≤ n → s.length ≤ (quoteD s.length s).length
  | n, s, hn => by
    by_cases hne : s = []
    · subst hne; simp
    · have hl : 0 < s.length := List.length_pos_iff.2 hne
      cases n with
      | zero => omega
      | succ n =>
        have ih := quoteD_ge n (s.drop (max (runeW s) 1)) (by rw [List.length_drop]; omega)
        rw [quoteD_next s hne, List.length_append]
        rw [List.length_drop] at ih
        rw [List.length_drop]
        have hr := runeW_le s
        have hx : max (runeW s) 1 ≤ (quoteX s).length := by
          unfold quoteX
          split
          · rename_i h
            have : runeW s = 1 := by
              match s, hne with
              | c :: s, _ =>
                refine runeW_ascii c s ?_
                rcases h with h | h <;> (have h' : c = _ := h; rw [h']; decide)
            rw [this]; simp
          · split
            · rename_i h
              have : runeW s = 1 := by
                match s, hne with
                | c :: s, _ =>
                  refine runeW_ascii c s ?_
                  have h' : c.toNat < 32 := h
                  omega
              rw [this]; simp
            · split
              · rename_i h
                rw [h]; decide
              · rw [List.length_take]; omega
        omega
def PR (t : TR) : Prop := ∀ (w : World) (F : Nat → Prop) (us : List Value), IsT w F us t → (∀ k, F k → k < w.heap.size) → Kd t → (prT t).length ≤ 140737488000000 → Calls Tryd.prog 14 #[.agg us.toArray] w fun e w' => e = .returned (.string ⟨(prT t).toArray⟩) ∧ Below w.heap.size w w'
theorem app_size (A B : ByteArray) : (A ++ B).size = A.size + B.size := ByteArray.size_append
theorem appMk (a b : List UInt8) : (⟨a.toArray⟩ : ByteArray) ++ (⟨b.toArray⟩ : ByteArray) = ⟨(a ++ b).toArray⟩ := by
  apply ByteArray.ext
  simp
theorem tree5 : (Tryd.prog.info? 35).map (·.size) = some 5 := by kernel_rfl
theorem prTL_cnt2 : ∀ (l : List TR), l.length ≤ (prTL false l).length
  | [] => by simp
  | j :: l => by
    have h := prTL_cnt2 l
    rw [prTL]
    simp only [List.length_append, List.length_cons, Bool.false_eq_true, if_false, List.length_nil]
    omega
theorem prTL_cnt : ∀ (l : List TR), l.length ≤ (prTL true l).length + 1
  | [] => by simp
  | j :: l => by
    have h := prTL_cnt2 l
    rw [prTL]
    simp only [List.length_append, List.length_cons]
    omega
theorem prTO_cnt : ∀ (f : Bool) (ks : List (List UInt8)) (l : List TR), l.length ≤ (prTO f ks l).length
  | _, _, [] => by simp
  | f, ks, j :: l => by
    have h := prTO_cnt false ks.tail l
    rw [prTO]
    simp only [List.length_append, List.length_cons]
    omega
theorem prTL_len : ∀ (f : Bool) (l : List TR), ∀ j ∈ l, (prT j).length ≤ (prTL f l).length
  | f, t :: l, j, h => by
    rw [prTL]
    simp only [List.length_append]
    rcases List.mem_cons.1 h with rfl | h
    · omega
    · have := prTL_len false l j h; omega
section
variable {w : World} {F : Nat → Prop}
set_option maxRecDepth 100000 in
set_option maxHeartbeats 400000 in
theorem prn_true {s : List UInt8} {Ak Ap : Option Addr} {nk ck np cp : Nat}  : Calls Tryd.prog 14 #[.agg #[.int .i64 1, .bool true, .string ⟨s.toArray⟩, .slice Ak nk ck, .slice Ap np cp]] w fun e w' => e = .returned (.string ⟨([116, 114, 117, 101] : List UInt8).toArray⟩) ∧ Below w.heap.size w w' := by
  have hbx : ∀ cs, Below w.heap.size w (w.alloc (.cells cs 35)) := fun cs => (Below.refl _ _).alloc (Nat.le_refl _) _
  have HBX := Lib.hid hbx
  clear hbx
  go_enter Tryd.func14, Tryd.ntmps14
  go_wp2
  go_ret
  exact ⟨rfl, HBX.out _⟩
set_option maxRecDepth 100000 in
set_option maxHeartbeats 400000 in
theorem prn_false {s : List UInt8} {Ak Ap : Option Addr} {nk ck np cp : Nat}  : Calls Tryd.prog 14 #[.agg #[.int .i64 1, .bool false, .string ⟨s.toArray⟩, .slice Ak nk ck, .slice Ap np cp]] w fun e w' => e = .returned (.string ⟨([102, 97, 108, 115, 101] : List UInt8).toArray⟩) ∧ Below w.heap.size w w' := by
  have hbx : ∀ cs, Below w.heap.size w (w.alloc (.cells cs 35)) := fun cs => (Below.refl _ _).alloc (Nat.le_refl _) _
  have HBX := Lib.hid hbx
  clear hbx
  go_enter Tryd.func14, Tryd.ntmps14
  go_wp2
  go_ret
  exact ⟨rfl, HBX.out _⟩
set_option maxRecDepth 100000 in
set_option maxHeartbeats 400000 in
theorem prn_num {s : List UInt8} {b : Bool} {Ak Ap : Option Addr} {nk ck np cp : Nat}  : Calls Tryd.prog 14 #[.agg #[.int .i64 2, .bool b, .string ⟨s.toArray⟩, .slice Ak nk ck, .slice Ap np cp]] w fun e w' => e = .returned (.string ⟨(s).toArray⟩) ∧ Below w.heap.size w w' := by
  have hbx : ∀ cs, Below w.heap.size w (w.alloc (.cells cs 35)) := fun cs => (Below.refl _ _).alloc (Nat.le_refl _) _
  have HBX := Lib.hid hbx
  clear hbx
  go_enter Tryd.func14, Tryd.ntmps14
  go_wp2
  go_ret
  exact ⟨rfl, HBX.out _⟩
set_option maxRecDepth 100000 in
set_option maxHeartbeats 400000 in
theorem prn_text {s : List UInt8} {b : Bool} {Ak Ap : Option Addr} {nk ck np cp : Nat} (hlen : (quoteB s).length ≤ 140737488000000) : Calls Tryd.prog 14 #[.agg #[.int .i64 3, .bool b, .string ⟨s.toArray⟩, .slice Ak nk ck, .slice Ap np cp]] w fun e w' => e = .returned (.string ⟨(quoteB s).toArray⟩) ∧ Below w.heap.size w w' := by
  have hbx : ∀ cs, Below w.heap.size w (w.alloc (.cells cs 35)) := fun cs => (Below.refl _ _).alloc (Nat.le_refl _) _
  have HBX := Lib.hid hbx
  clear hbx
  have hsl : s.length ≤ 140737488000000 := by
    have := quoteD_ge s.length s (Nat.le_refl _)
    unfold quoteB at hlen
    simp at hlen
    omega
  have HQ := Lib.hid (quoted_any s hlen hsl)
  clear hlen hsl
  go_enter Tryd.func14, Tryd.ntmps14
  go_wp2_with (go_at_call 30; go_must (refine (HQ.out _).mono ?_; rintro e w1 ⟨rfl, hb1⟩))
  go_ret
  exact ⟨rfl, (HBX.out _).trans (hb1.mono (HBX.out _).size)⟩
set_option maxRecDepth 100000 in
set_option maxHeartbeats 400000 in
theorem prn_null {s : List UInt8} {b : Bool} {k : Int} {Ak Ap : Option Addr} {nk ck np cp : Nat} (h1 : k ≠ 1) (h2 : k ≠ 2) (h3 : k ≠ 3) (h4 : k ≠ 4) (h5 : k ≠ 5) : Calls Tryd.prog 14 #[.agg #[.int .i64 k, .bool b, .string ⟨s.toArray⟩, .slice Ak nk ck, .slice Ap np cp]] w fun e w' => e = .returned (.string ⟨([110, 117, 108, 108] : List UInt8).toArray⟩) ∧ Below w.heap.size w w' := by
  have hbx : ∀ cs, Below w.heap.size w (w.alloc (.cells cs 35)) := fun cs => (Below.refl _ _).alloc (Nat.le_refl _) _
  have HBX := Lib.hid hbx
  clear hbx
  have q1 : (k == 1) = false := by simpa using h1
  have q2 : (k == 2) = false := by simpa using h2
  have q3 : (k == 3) = false := by simpa using h3
  have q4 : (k == 4) = false := by simpa using h4
  have q5 : (k == 5) = false := by simpa using h5
  clear h1 h2 h3 h4 h5
  go_enter Tryd.func14, Tryd.ntmps14
  go_wp2
  go_ret
  exact ⟨rfl, HBX.out _⟩
set_option maxRecDepth 100000 in
set_option maxHeartbeats 800000 in
theorem prn_list {s : List UInt8} {b : Bool} {Ak Ap : Option Addr} {ck cp : Nat} {ks : List (List UInt8)} {uss : List (List Value)} {ps : List TR} (ih : ∀ t ∈ ps, PR t) (hkd : ∀ p ∈ ps, Kd p) (hu : uss.length = ps.length) (hrk : Rd w F Ak (strs ks)) (hrp : Rd w F Ap uss.flatten)
    (he : ∀ (i : Nat) (us : List Value) (t : TR), uss[i]? = some us → ps[i]? = some t → IsT w F us t) (hF : ∀ k, F k → k < w.heap.size) (hlen : (prTL true ps).length + 2 ≤ 140737488000000) :
    Calls Tryd.prog 14 #[.agg #[.int .i64 4, .bool b, .string ⟨s.toArray⟩, .slice Ak ks.length ck, .slice Ap ps.length cp]] w fun e w' => e = .returned (.string ⟨(91 :: (prTL true ps ++ [93])).toArray⟩) ∧ Below w.heap.size w w' := by
  obtain ⟨sb, hsb⟩ : ∃ sb : ByteArray, sb = ⟨s.toArray⟩ := ⟨_, rfl⟩
  rw [← hsb]
  clear hsb
  obtain ⟨wx, hwx⟩ : ∃ wx, wx = w.alloc (.cells #[.int .i64 4, .bool b, .string sb, .slice Ak ks.length ck, .slice Ap ps.length cp] 35) := ⟨_, rfl⟩
  have hbx : Below w.heap.size w wx := by rw [hwx]; exact (Below.refl _ _).alloc (Nat.le_refl _) _
  have hx0 : wx.heap[w.heap.size]? = some (.cells #[.int .i64 4, .bool b, .string sb, .slice Ak ks.length ck, .slice Ap ps.length cp] 35 (0, 0)) := by rw [hwx]; exact heap_alloc_new _ _
  obtain ⟨bx, hbxe⟩ : ∃ bx, bx = w.heap.size := ⟨_, rfl⟩
  have HROWX : Hid (∀ wr, Below wx.heap.size wx wr → wr.cell? ⟨bx, 0, none⟩ = some (.int .i64 4) ∧ wr.cell? ⟨bx, 3, none⟩ = some (.slice Ak ks.length ck) ∧ wr.cell? ⟨bx, 4, none⟩ = some (.slice Ap ps.length cp)) := by
    intro wr hb
    have h1 := heap_below hx0 hb
    rw [hbxe]
    exact ⟨cell_of_row wr w.heap.size 0 _ _ _ h1, cell_of_row wr w.heap.size 3 _ _ _ h1, cell_of_row wr w.heap.size 4 _ _ _ h1⟩
  have IH := Lib.hid ih
  have KD := Lib.hid hkd
  have HE := Lib.hid he
  have HR := Lib.hid hrp
  have HRK := Lib.hid hrk
  have HF := Lib.hid hF
  have HU := Lib.hid hu
  have HFIVE : Hid (∀ us ∈ uss, us.length = 5) := by
    intro us hm
    obtain ⟨i, hi⟩ := List.mem_iff_getElem?.1 hm
    have hlt : i < ps.length := by rw [← hu]; exact (List.getElem?_eq_some_iff.1 hi).1
    exact (he i us _ hi (List.getElem?_eq_getElem hlt)).five
  have HLEN := Lib.hid hlen
  have HPS : Hid (ps.length ≤ 140737488000000) := by show _ ≤ _; have := prTL_cnt ps; omega
  have HBX := Lib.hid hbx
  have HWX := Lib.hid hwx
  have HKL := trivial
  clear ih hkd he hrp hrk hF hu hlen hbx hx0 
  go_enter Tryd.func14, Tryd.ntmps14
  obtain ⟨e0, e3, e4⟩ := HROWX.out wx (Below.refl _ _)
  go_upto_region 15 with (fail)
  rw [← hwx, ← hbxe]
  clear hwx hbxe
  go_wp2
  go_loopw [29, 3] (fun i v wr => ∃ (k : Nat) (acc : List UInt8), k ≤ ps.length ∧ i = .int .i64 (k : Int) ∧ v = .string ⟨acc.toArray⟩ ∧ Below wx.heap.size wx wr ∧ acc ++ prTL (decide (k = 0)) (ps.drop k) = 91 :: prTL true ps) (fun i _ _ => ps.length - (intOf i).toNat)
  case atStart => exact ⟨0, [91], Nat.zero_le _, rfl, rfl, Below.refl _ _, by simp⟩
  case round =>
    obtain ⟨k, acc, hk, rfl, rfl, hB, hacc⟩ := hrel
    by_cases hlt : k < ps.length
    · obtain ⟨j, hj⟩ : ∃ j, ps[k]? = some j := ⟨_, List.getElem?_eq_getElem hlt⟩
      have hdrop : ps.drop k = j :: ps.drop (k + 1) := by
        rw [List.drop_eq_getElem_cons hlt]
        rw [List.getElem?_eq_getElem hlt] at hj
        rw [Option.some.inj hj]
      have hjm : j ∈ ps := List.mem_of_getElem? hj
      have hlu : k < uss.length := by rw [HU.out]; exact hlt
      obtain ⟨us, hus⟩ : ∃ us, uss[k]? = some us := ⟨_, List.getElem?_eq_getElem hlu⟩
      have hmg := flat5 uss HFIVE.out k us hus
      have hist := HE.out k us j hus hj
      have h5 := hist.five
      have hne : uss.flatten ≠ [] := by
        intro h0
        have := hmg 0 _ (List.getElem?_eq_getElem (by omega))
        rw [h0] at this
        simp at this
      obtain ⟨b0, off, rfl, hb0, hc0⟩ := HR.out hne
      have hrow : wr.rangeAt b0 (off + k * 5) us.toArray.toList := by
        intro i x hx
        have hx' : us[i]? = some x := hx
        rw [Nat.add_assoc]
        have hbb := HBX.out.size
        exact (hB.cell (p := ⟨b0, off + (k * 5 + i), none⟩) (Nat.lt_of_lt_of_le (HF.out b0 hb0) hbb)).trans ((HBX.out.cell (p := ⟨b0, off + (k * 5 + i), none⟩) (HF.out b0 hb0)).trans (hc0 (k * 5 + i) x (hmg i x hx')))
      have hz5 : (Tryd.prog.info? 35).map (·.size) = some us.toArray.size := by
        have : us.toArray.size = 5 := by simpa using h5
        rw [this]
        exact tree5
      have hisr : IsT wr F us j := hist.keep (fun q hq => (hB.block q (Nat.lt_of_lt_of_le (HF.out q hq) HBX.out.size)).trans (HBX.out.block q (HF.out q hq))) (fun q hq => hq)
      have hFr : ∀ q, F q → q < wr.heap.size := fun q hq => by have h1_ := HF.out q hq; have h2_ := HBX.out.size; have h3_ := hB.size; omega
      have hkI : (k : Int) < (ps.length : Int) := by omega
      have hk0 : (0 : Int) ≤ (k : Int) := by omega
      have hki3 : (k : Int) + 1 ≤ 140737488000000 := by have := HPS.out; omega
      rw [hdrop] at hacc
      rw [prTL] at hacc
      skip
      have hsum : acc.length + (if decide (k = 0) = true then ([] : List UInt8) else [44]).length + (prT j).length + 1 ≤ 140737488000000 := by
        have h1 := congrArg List.length hacc
        have h2 := HLEN.out
        simp only [List.length_append, List.length_cons] at h1 h2 ⊢
        omega
      obtain ⟨f0, f3, f4⟩ := HROWX.out wr hB
      obtain ⟨A0, hA0⟩ : ∃ A0 : ByteArray, A0 = ⟨acc.toArray⟩ := ⟨_, rfl⟩
      have hAz : A0.size = acc.length := by rw [hA0]; simp [ByteArray.size]
      obtain ⟨E, hE⟩ : ∃ E : ByteArray, E = ⟨(prT j).toArray⟩ := ⟨_, rfl⟩
      have hEz : E.size = (prT j).length := by rw [hE]; simp [ByteArray.size]
      have hpj : (prT j).length ≤ 140737488000000 := by omega
      have HP := Lib.hid (IH.out j hjm wr F us hisr hFr (KD.out j hjm) hpj)
      rw [← hA0]
      have HAC := Lib.hid hacc
      have HA0 := Lib.hid hA0
      have HEE := Lib.hid hE
      have HB := Lib.hid hB
      have HLT := Lib.hid hlt
      have HROW := Lib.hid hrow
      have HISR := Lib.hid hisr
      have HFR := Lib.hid hFr
      have HPJ := Lib.hid (And.intro hjm hpj)
      have HB0 := Lib.hid (hFr b0 hb0)
      by_cases hk00 : k = 0
      · subst hk00
        simp only [Nat.zero_mul, Nat.add_zero] at HROW
        have hs1 : ¬ 9223372036854775807 < A0.size + E.size := by simp at hsum; omega
        clear hacc hlt hdrop hB hc0 hb0 hne hlu hj hjm hsum hmg hrow hist hisr hFr hA0 hE hAz hEz hpj hus h5
        go_wp2_with (first
          | (refine wpList_load_arr rfl _ _ rfl b0 off rfl us.toArray _ (by with_reducible exact HROW.out) Tryd.underlying35 rfl (by with_reducible exact hz5) ?_)
          | (go_at_call 14; go_must (refine HP.out.mono ?_; rintro e w2 ⟨rfl, hb2⟩; rw [← HEE.out]; obtain ⟨y0, y3, y4⟩ := HROWX.out w2 (HB.out.trans (hb2.mono HB.out.size)))))
        go_roundw
        case rel => exact ⟨1, acc ++ prT j, HLT.out, by go_num, by rw [HA0.out, HEE.out]; simp only [appMk], HB.out.trans (hb2.mono HB.out.size), by rw [← HAC.out]; simp⟩
        case measure => have := HLT.out; simp [intOf]; omega
      · have hkp : (0 : Int) < (k : Int) := by omega
        have hkp2 : 0 < k := by omega
        have hkp3 : decide (0 < k) = true := by simp; omega
        have hdz : decide (k = 0) = false := by simp [hk00]
        rw [hdz] at hsum
        have HZ := Lib.hid hdz
        have hs0 : ¬ 9223372036854775807 < A0.size + 1 := by simp at hsum; omega
        have hs1 : ¬ 9223372036854775807 < A0.size + 1 + E.size := by simp at hsum; omega
        clear hacc hlt hdrop hB hc0 hb0 hne hlu hj hjm hsum hmg hrow hist hisr hFr hA0 hE hAz hEz hpj hus h5 hk00 hdz
        go_wp2_with (first
          | (refine wpList_load_arr rfl _ _ rfl b0 (off + k * 5) rfl us.toArray _ (by with_reducible exact HROW.out) Tryd.underlying35 rfl (by with_reducible exact hz5) ?_)
          | (go_at_call 14; go_must (refine HP.out.mono ?_; rintro e w2 ⟨rfl, hb2⟩; rw [← HEE.out]; obtain ⟨y0, y3, y4⟩ := HROWX.out w2 (HB.out.trans (hb2.mono HB.out.size)))))
        go_roundw
        case rel => exact ⟨k + 1, acc ++ [44] ++ prT j, HLT.out, by go_num, by rw [HA0.out, HEE.out]; simp only [appMk], HB.out.trans (hb2.mono HB.out.size), by rw [← HAC.out, HZ.out]; simp⟩
        case measure => have := HLT.out; simp [intOf]; omega
    · obtain rfl : k = ps.length := by omega
      have hd : decide (ps.length < ps.length) = false := by simp
      rw [List.drop_length, prTL, List.append_nil] at hacc
      obtain ⟨f0, f3, f4⟩ := HROWX.out wr hB
      obtain ⟨A0, hA0⟩ : ∃ A0 : ByteArray, A0 = ⟨acc.toArray⟩ := ⟨_, rfl⟩
      have hAz : A0.size = acc.length := by rw [hA0]; simp [ByteArray.size]
      have hs1 : ¬ 9223372036854775807 < A0.size + 1 := by
        have h1 := congrArg List.length hacc
        have h2 := HLEN.out
        simp only [List.length_cons] at h1 h2
        omega
      have HE2 : Hid (A0 ++ ⟨#[93]⟩ = ⟨(91 :: (prTL true ps ++ [93])).toArray⟩) := by
        show _ = _
        rw [hA0, hacc]
        exact appMk _ [93]
      rw [← hA0]
      have HB := Lib.hid hB
      clear hB hacc hA0 hAz hk hlt
      go_wp2
      go_ret
      exact ⟨by rw [← HE2.out]; rfl, HBX.out.trans (HB.out.mono HBX.out.size)⟩
set_option maxRecDepth 100000 in
set_option maxHeartbeats 800000 in
theorem prn_obj {s : List UInt8} {b : Bool} {Ak Ap : Option Addr} {ck cp : Nat} {ks : List (List UInt8)} {uss : List (List Value)} {ps : List TR} (ih : ∀ t ∈ ps, PR t) (hkd : ∀ p ∈ ps, Kd p) (hkl : ks.length = ps.length) (hu : uss.length = ps.length) (hrk : Rd w F Ak (strs ks)) (hrp : Rd w F Ap uss.flatten)
    (he : ∀ (i : Nat) (us : List Value) (t : TR), uss[i]? = some us → ps[i]? = some t → IsT w F us t) (hF : ∀ k, F k → k < w.heap.size) (hlen : (prTO true ks ps).length + 2 ≤ 140737488000000) :
    Calls Tryd.prog 14 #[.agg #[.int .i64 5, .bool b, .string ⟨s.toArray⟩, .slice Ak ks.length ck, .slice Ap ps.length cp]] w fun e w' => e = .returned (.string ⟨(123 :: (prTO true ks ps ++ [125])).toArray⟩) ∧ Below w.heap.size w w' := by
  obtain ⟨sb, hsb⟩ : ∃ sb : ByteArray, sb = ⟨s.toArray⟩ := ⟨_, rfl⟩
  rw [← hsb]
  clear hsb
  obtain ⟨wx, hwx⟩ : ∃ wx, wx = w.alloc (.cells #[.int .i64 5, .bool b, .string sb, .slice Ak ks.length ck, .slice Ap ps.length cp] 35) := ⟨_, rfl⟩
  have hbx : Below w.heap.size w wx := by rw [hwx]; exact (Below.refl _ _).alloc (Nat.le_refl _) _
  have hx0 : wx.heap[w.heap.size]? = some (.cells #[.int .i64 5, .bool b, .string sb, .slice Ak ks.length ck, .slice Ap ps.length cp] 35 (0, 0)) := by rw [hwx]; exact heap_alloc_new _ _
  obtain ⟨bx, hbxe⟩ : ∃ bx, bx = w.heap.size := ⟨_, rfl⟩
  have HROWX : Hid (∀ wr, Below wx.heap.size wx wr → wr.cell? ⟨bx, 0, none⟩ = some (.int .i64 5) ∧ wr.cell? ⟨bx, 3, none⟩ = some (.slice Ak ks.length ck) ∧ wr.cell? ⟨bx, 4, none⟩ = some (.slice Ap ps.length cp)) := by
    intro wr hb
    have h1 := heap_below hx0 hb
    rw [hbxe]
    exact ⟨cell_of_row wr w.heap.size 0 _ _ _ h1, cell_of_row wr w.heap.size 3 _ _ _ h1, cell_of_row wr w.heap.size 4 _ _ _ h1⟩
  have IH := Lib.hid ih
  have KD := Lib.hid hkd
  have HE := Lib.hid he
  have HR := Lib.hid hrp
  have HRK := Lib.hid hrk
  have HF := Lib.hid hF
  have HU := Lib.hid hu
  have HFIVE : Hid (∀ us ∈ uss, us.length = 5) := by
    intro us hm
    obtain ⟨i, hi⟩ := List.mem_iff_getElem?.1 hm
    have hlt : i < ps.length := by rw [← hu]; exact (List.getElem?_eq_some_iff.1 hi).1
    exact (he i us _ hi (List.getElem?_eq_getElem hlt)).five
  have HLEN := Lib.hid hlen
  have HPS : Hid (ps.length ≤ 140737488000000) := by show _ ≤ _; have := prTO_cnt true ks ps; omega
  have HBX := Lib.hid hbx
  have HWX := Lib.hid hwx
  have HKL := Lib.hid hkl
  clear ih hkd he hrp hrk hF hu hlen hbx hx0 hkl
  go_enter Tryd.func14, Tryd.ntmps14
  obtain ⟨e0, e3, e4⟩ := HROWX.out wx (Below.refl _ _)
  go_upto_region 15 with (fail)
  rw [← hwx, ← hbxe]
  clear hwx hbxe
  go_wp2
  go_loopw [29, 3] (fun i v wr => ∃ (k : Nat) (acc : List UInt8), k ≤ ps.length ∧ i = .int .i64 (k : Int) ∧ v = .string ⟨acc.toArray⟩ ∧ Below wx.heap.size wx wr ∧ acc ++ prTO (decide (k = 0)) (ks.drop k) (ps.drop k) = 123 :: prTO true ks ps) (fun i _ _ => ps.length - (intOf i).toNat)
  case atStart => exact ⟨0, [123], Nat.zero_le _, rfl, rfl, Below.refl _ _, by simp⟩
  case round =>
    obtain ⟨k, acc, hk, rfl, rfl, hB, hacc⟩ := hrel
    by_cases hlt : k < ps.length
    · obtain ⟨j, hj⟩ : ∃ j, ps[k]? = some j := ⟨_, List.getElem?_eq_getElem hlt⟩
      have hdrop : ps.drop k = j :: ps.drop (k + 1) := by
        rw [List.drop_eq_getElem_cons hlt]
        rw [List.getElem?_eq_getElem hlt] at hj
        rw [Option.some.inj hj]
      have hjm : j ∈ ps := List.mem_of_getElem? hj
      have hlu : k < uss.length := by rw [HU.out]; exact hlt
      obtain ⟨us, hus⟩ : ∃ us, uss[k]? = some us := ⟨_, List.getElem?_eq_getElem hlu⟩
      have hmg := flat5 uss HFIVE.out k us hus
      have hist := HE.out k us j hus hj
      have h5 := hist.five
      have hlk : k < ks.length := by rw [HKL.out]; exact hlt
      obtain ⟨key, hkey⟩ : ∃ key, ks[k]? = some key := ⟨_, List.getElem?_eq_getElem hlk⟩
      have hkd : ks.drop k = key :: ks.drop (k + 1) := by
        rw [List.drop_eq_getElem_cons hlk]
        rw [List.getElem?_eq_getElem hlk] at hkey
        rw [Option.some.inj hkey]
      have hkk := strs_get ks k key hkey
      obtain ⟨bk, offk, rfl, hbk, hck⟩ := HRK.out (by intro h0; rw [h0] at hkk; simp at hkk)
      obtain ⟨KB, hKB⟩ : ∃ KB : ByteArray, KB = ⟨key.toArray⟩ := ⟨_, rfl⟩
      have hckk : wr.cell? ⟨bk, offk + k, none⟩ = some (.string KB) := by
        rw [hKB]
        exact (hB.cell (p := ⟨bk, offk + k, none⟩) (Nat.lt_of_lt_of_le (HF.out bk hbk) HBX.out.size)).trans ((HBX.out.cell (p := ⟨bk, offk + k, none⟩) (HF.out bk hbk)).trans (hck k _ hkk))
      have hkI2 : (k : Int) < (ks.length : Int) := by omega
      have hne : uss.flatten ≠ [] := by
        intro h0
        have := hmg 0 _ (List.getElem?_eq_getElem (by omega))
        rw [h0] at this
        simp at this
      obtain ⟨b0, off, rfl, hb0, hc0⟩ := HR.out hne
      have hrow : wr.rangeAt b0 (off + k * 5) us.toArray.toList := by
        intro i x hx
        have hx' : us[i]? = some x := hx
        rw [Nat.add_assoc]
        have hbb := HBX.out.size
        exact (hB.cell (p := ⟨b0, off + (k * 5 + i), none⟩) (Nat.lt_of_lt_of_le (HF.out b0 hb0) hbb)).trans ((HBX.out.cell (p := ⟨b0, off + (k * 5 + i), none⟩) (HF.out b0 hb0)).trans (hc0 (k * 5 + i) x (hmg i x hx')))
      have hz5 : (Tryd.prog.info? 35).map (·.size) = some us.toArray.size := by
        have : us.toArray.size = 5 := by simpa using h5
        rw [this]
        exact tree5
      have hisr : IsT wr F us j := hist.keep (fun q hq => (hB.block q (Nat.lt_of_lt_of_le (HF.out q hq) HBX.out.size)).trans (HBX.out.block q (HF.out q hq))) (fun q hq => hq)
      have hFr : ∀ q, F q → q < wr.heap.size := fun q hq => by have h1_ := HF.out q hq; have h2_ := HBX.out.size; have h3_ := hB.size; omega
      have hkI : (k : Int) < (ps.length : Int) := by omega
      have hk0 : (0 : Int) ≤ (k : Int) := by omega
      have hki3 : (k : Int) + 1 ≤ 140737488000000 := by have := HPS.out; omega
      rw [hdrop, hkd] at hacc
      rw [prTO] at hacc
      simp only [List.headD_cons, List.tail_cons] at hacc
      have hsum : acc.length + (if decide (k = 0) = true then ([] : List UInt8) else [44]).length + (quoteB key).length + 1 + (prT j).length + 1 ≤ 140737488000000 := by
        have h1 := congrArg List.length hacc
        have h2 := HLEN.out
        simp only [List.length_append, List.length_cons] at h1 h2 ⊢
        omega
      obtain ⟨f0, f3, f4⟩ := HROWX.out wr hB
      obtain ⟨A0, hA0⟩ : ∃ A0 : ByteArray, A0 = ⟨acc.toArray⟩ := ⟨_, rfl⟩
      have hAz : A0.size = acc.length := by rw [hA0]; simp [ByteArray.size]
      obtain ⟨E, hE⟩ : ∃ E : ByteArray, E = ⟨(prT j).toArray⟩ := ⟨_, rfl⟩
      have hEz : E.size = (prT j).length := by rw [hE]; simp [ByteArray.size]
      obtain ⟨QB, hQB⟩ : ∃ QB : ByteArray, QB = ⟨(quoteB key).toArray⟩ := ⟨_, rfl⟩
      have hQz : QB.size = (quoteB key).length := by rw [hQB]; simp [ByteArray.size]
      have hql : (quoteB key).length ≤ 140737488000000 := by omega
      have hkl2 : key.length ≤ 140737488000000 := by
        have := quoteD_ge key.length key (Nat.le_refl _)
        unfold quoteB at hql
        simp at hql
        omega
      have HQ := Lib.hid (quoted_any key hql hkl2)
      have HKB := Lib.hid hKB
      have HQB := Lib.hid hQB
      have hpj : (prT j).length ≤ 140737488000000 := by omega
      have HP := Lib.hid (IH.out j hjm wr F us hisr hFr (KD.out j hjm) hpj)
      rw [← hA0]
      have HAC := Lib.hid hacc
      have HA0 := Lib.hid hA0
      have HEE := Lib.hid hE
      have HB := Lib.hid hB
      have HLT := Lib.hid hlt
      have HROW := Lib.hid hrow
      have HISR := Lib.hid hisr
      have HFR := Lib.hid hFr
      have HPJ := Lib.hid (And.intro hjm hpj)
      have HB0 := Lib.hid (hFr b0 hb0)
      by_cases hk00 : k = 0
      · subst hk00
        simp only [Nat.zero_mul, Nat.add_zero] at HROW hckk
        have hs1 : ¬ 9223372036854775807 < A0.size + QB.size := by simp at hsum; omega
        have hs2 : ¬ 9223372036854775807 < A0.size + QB.size + 1 := by simp at hsum; omega
        have hs3 : ¬ 9223372036854775807 < A0.size + QB.size + 1 + E.size := by simp at hsum; omega
        clear hacc hlt hdrop hB hc0 hb0 hne hlu hj hjm hsum hmg hrow hist hisr hFr hA0 hE hAz hEz hpj hus h5 hlk hkey hkd hkk hbk hck hKB hQB hQz hql hkl2
        go_wp2_with (first
          | (refine wpList_load_arr rfl _ _ rfl b0 off rfl us.toArray _ (by with_reducible exact HROW1.out) Tryd.underlying35 rfl (by with_reducible exact hz5) ?_)
          | (go_at_call 30; go_must (rw [HKB.out]; refine (HQ.out wr).mono ?_; rintro e w1 ⟨rfl, hb1⟩; rw [← HQB.out]; obtain ⟨z0, z3, z4⟩ := HROWX.out w1 (HB.out.trans (hb1.mono HB.out.size)); have HROW1 : Hid (w1.rangeAt b0 off us.toArray.toList) := (fun i x hx => (hb1.cell (p := ⟨b0, off + i, none⟩) HB0.out).trans (HROW.out i x hx)); have HB1 := Lib.hid hb1))
          | (go_at_call 14; go_must (refine (IH.out j HPJ.out.1 w1 F us (HISR.out.keep (fun q hq => HB1.out.block q (HFR.out q hq)) (fun q hq => hq)) (fun q hq => Nat.lt_of_lt_of_le (HFR.out q hq) HB1.out.size) (KD.out j HPJ.out.1) HPJ.out.2).mono ?_; rintro e w2 ⟨rfl, hb2⟩; rw [← HEE.out]; obtain ⟨y0, y3, y4⟩ := HROWX.out w2 ((HB.out.trans (HB1.out.mono HB.out.size)).trans (hb2.mono (HB.out.trans (HB1.out.mono HB.out.size)).size)))))
        go_roundw
        case rel => exact ⟨1, acc ++ quoteB key ++ [58] ++ prT j, HLT.out, by go_num, by rw [HA0.out, HEE.out, HQB.out]; simp only [appMk], (HB.out.trans (HB1.out.mono HB.out.size)).trans (hb2.mono (HB.out.trans (HB1.out.mono HB.out.size)).size), by rw [← HAC.out]; simp⟩
        case measure => have := HLT.out; simp [intOf]; omega
      · have hkp : (0 : Int) < (k : Int) := by omega
        have hkp2 : 0 < k := by omega
        have hkp3 : decide (0 < k) = true := by simp; omega
        have hdz : decide (k = 0) = false := by simp [hk00]
        rw [hdz] at hsum
        have HZ := Lib.hid hdz
        have hs0 : ¬ 9223372036854775807 < A0.size + 1 := by simp at hsum; omega
        have hs1 : ¬ 9223372036854775807 < A0.size + 1 + QB.size := by simp at hsum; omega
        have hs2 : ¬ 9223372036854775807 < A0.size + 1 + QB.size + 1 := by simp at hsum; omega
        have hs3 : ¬ 9223372036854775807 < A0.size + 1 + QB.size + 1 + E.size := by simp at hsum; omega
        clear hacc hlt hdrop hB hc0 hb0 hne hlu hj hjm hsum hmg hrow hist hisr hFr hA0 hE hAz hEz hpj hus h5 hk00 hdz hlk hkey hkd hkk hbk hck hKB hQB hQz hql hkl2
        go_wp2_with (first
          | (refine wpList_load_arr rfl _ _ rfl b0 (off + k * 5) rfl us.toArray _ (by with_reducible exact HROW1.out) Tryd.underlying35 rfl (by with_reducible exact hz5) ?_)
          | (go_at_call 30; go_must (rw [HKB.out]; refine (HQ.out wr).mono ?_; rintro e w1 ⟨rfl, hb1⟩; rw [← HQB.out]; obtain ⟨z0, z3, z4⟩ := HROWX.out w1 (HB.out.trans (hb1.mono HB.out.size)); have HROW1 : Hid (w1.rangeAt b0 (off + k * 5) us.toArray.toList) := (fun i x hx => (hb1.cell (p := ⟨b0, (off + k * 5) + i, none⟩) HB0.out).trans (HROW.out i x hx)); have HB1 := Lib.hid hb1))
          | (go_at_call 14; go_must (refine (IH.out j HPJ.out.1 w1 F us (HISR.out.keep (fun q hq => HB1.out.block q (HFR.out q hq)) (fun q hq => hq)) (fun q hq => Nat.lt_of_lt_of_le (HFR.out q hq) HB1.out.size) (KD.out j HPJ.out.1) HPJ.out.2).mono ?_; rintro e w2 ⟨rfl, hb2⟩; rw [← HEE.out]; obtain ⟨y0, y3, y4⟩ := HROWX.out w2 ((HB.out.trans (HB1.out.mono HB.out.size)).trans (hb2.mono (HB.out.trans (HB1.out.mono HB.out.size)).size)))))
        go_roundw
        case rel => exact ⟨k + 1, acc ++ [44] ++ quoteB key ++ [58] ++ prT j, HLT.out, by go_num, by rw [HA0.out, HEE.out, HQB.out]; simp only [appMk], (HB.out.trans (HB1.out.mono HB.out.size)).trans (hb2.mono (HB.out.trans (HB1.out.mono HB.out.size)).size), by rw [← HAC.out, HZ.out]; simp⟩
        case measure => have := HLT.out; simp [intOf]; omega
    · obtain rfl : k = ps.length := by omega
      have hd : decide (ps.length < ps.length) = false := by simp
      rw [List.drop_length, prTO, List.append_nil] at hacc
      obtain ⟨f0, f3, f4⟩ := HROWX.out wr hB
      obtain ⟨A0, hA0⟩ : ∃ A0 : ByteArray, A0 = ⟨acc.toArray⟩ := ⟨_, rfl⟩
      have hAz : A0.size = acc.length := by rw [hA0]; simp [ByteArray.size]
      have hs1 : ¬ 9223372036854775807 < A0.size + 1 := by
        have h1 := congrArg List.length hacc
        have h2 := HLEN.out
        simp only [List.length_cons] at h1 h2
        omega
      have HE2 : Hid (A0 ++ ⟨#[125]⟩ = ⟨(123 :: (prTO true ks ps ++ [125])).toArray⟩) := by
        show _ = _
        rw [hA0, hacc]
        exact appMk _ [125]
      rw [← hA0]
      have HB := Lib.hid hB
      clear hB hacc hA0 hAz hk hlt
      go_wp2
      go_ret
      exact ⟨by rw [← HE2.out]; rfl, HBX.out.trans (HB.out.mono HBX.out.size)⟩
end
theorem pr_all : ∀ (n : Nat) (t : TR), SizeOf.sizeOf t ≤ n → PR t
  | 0, t, hn => by cases t; simp at hn
  | n + 1, t, hn => by
    intro w F us hv hF hkd hlen
    cases hv with
    | mk k b s Ak ck ks Ap cp uss ps hu hk hp he =>
      have hsub : ∀ p ∈ ps, PR p := fun p hp => pr_all n p (by
        have := List.sizeOf_lt_of_mem hp
        simp at hn
        omega)
      cases hkd with
      | mk _ _ _ _ _ h5 hks =>
        rw [prT] at hlen ⊢
        by_cases k1 : k = 1
        · subst k1
          cases b
          · exact prn_false
          · exact prn_true
        rw [if_neg k1] at hlen ⊢
        by_cases k2 : k = 2
        · subst k2; exact prn_num
        rw [if_neg k2] at hlen ⊢
        by_cases k3 : k = 3
        · subst k3; exact prn_text hlen
        rw [if_neg k3] at hlen ⊢
        by_cases k4 : k = 4
        · subst k4; exact prn_list hsub hks hu hk hp he hF (by simpa using hlen)
        rw [if_neg k4] at hlen ⊢
        by_cases k5 : k = 5
        · subst k5; exact prn_obj hsub hks (h5 rfl) hu hk hp he hF (by simpa using hlen)
        rw [if_neg k5]
        exact prn_null k1 k2 k3 k4 k5
/-- The reference prints what prT says. -/
theorem rPrint_any {w : World} {F : Nat → Prop} {us : List Value} {t : TR} (h : IsT w F us t) (hF : ∀ k, F k → k < w.heap.size) (hk : Kd t) (hlen : (prT t).length ≤ 140737488000000) : Calls Tryd.prog 14 #[.agg us.toArray] w fun e w' => e = .returned (.string ⟨(prT t).toArray⟩) ∧ Below w.heap.size w w' :=
  pr_all _ t (Nat.le_refl _) w F us h hF hk hlen
end Go.Proofs.YtkbopeoaoakfnaaDoor
