/- The texts JT5 of this work, merged by wip/merge.py. No conditions. -/
import Derived.Test.YtkbopeoaoakfnaaDoorQTA
import Derived.Test.YtkbopeoaoakfnaaDoorQTB
import Derived.Test.YtkbopeoaoakfnaaDoorQJG
namespace Go.Proofs.YtkbopeoaoakfnaaDoor
open Go.RowKit
/-- No part has more than so many parts. -/
inductive Sm : TR → Prop where
  | mk (k : Int) (b : Bool) (s : List UInt8) (ks : List (List UInt8)) (ps : List TR) (h : ps.length ≤ 1048576) (he : ∀ p ∈ ps, Sm p) : Sm (.mk k b s ks ps)
def OU (t : TR) : Prop := ∀ (w : World) (F : Nat → Prop) (us : List Value), IsT w F us t → (∀ k, F k → k < w.heap.size) → Sm t → Calls Tryd.prog 15 #[.agg us.toArray] w fun e w' => ∃ us', e = .returned (.agg us'.toArray) ∧ Below w.heap.size w w' ∧ IsT w' (fun k => w.heap.size ≤ k ∧ k < w'.heap.size) us' (oursT t)
theorem keysOf_take (ks : List (List UInt8)) (n i : Nat) (h : i < n) : (keysOf ks n).take (i + 1) = (keysOf ks n).take i ++ [ks.getD i []] := by
  have hl : i < (keysOf ks n).length := by rw [keysOf_len]; exact h
  rw [List.take_add_one, List.getElem?_eq_getElem hl]
  simp [keysOf]
theorem oursTL_take (ps : List TR) (i : Nat) (t : TR) (h : ps[i]? = some t) : (oursTL ps).take (i + 1) = (oursTL ps).take i ++ [oursT t] := by
  rw [List.take_add_one, oursTL_map, List.getElem?_map, h]
  rfl
theorem strinfo : (Tryd.prog.info? 9).map (fun i => (i.zero, i.size, i.bytes)) = some (some (.string ⟨#[]⟩), 1, 16) := by kernel_rfl
theorem treeinfo : (Tryd.prog.info? 35).map (fun i => (i.zero, i.size, i.bytes)) = some (some (.agg #[.int .i64 0, .bool false, .string ⟨#[]⟩, .slice none 0 0, .slice none 0 0]), 5, 80) := by kernel_rfl
theorem IsT.ones {w : World} {F : Nat → Prop} {us : List Value} {t : TR} (h : IsT w F us t) : (us.toArray.all fun u => u.oneCell') = true := by cases h; simp [List.all]; exact ⟨rfl, rfl, rfl, rfl, rfl⟩
theorem lawtree5 : (Tryd.prog.info? 25).map (·.size) = some 5 := by kernel_rfl
theorem Rd.row {w : World} {F : Nat → Prop} {A : Option Addr} {uss : List (List Value)} {ps : List TR} (h : Rd w F A uss.flatten) (hu : uss.length = ps.length) (he : ∀ (i : Nat) (us : List Value) (t : TR), uss[i]? = some us → ps[i]? = some t → IsT w F us t) {k : Nat} {t : TR} (hk : ps[k]? = some t) :
    ∃ us b off, A = some ⟨b, off, none⟩ ∧ F b ∧ uss[k]? = some us ∧ IsT w F us t ∧ us.length = 5 ∧ ∀ (j : Nat) (x : Value), us[j]? = some x → w.cell? ⟨b, off + k * 5 + j, none⟩ = some x := by
  have hkl : k < ps.length := (List.getElem?_eq_some_iff.1 hk).1
  have h5 : ∀ us ∈ uss, us.length = 5 := by
    intro us hm
    obtain ⟨i, hi⟩ := List.mem_iff_getElem?.1 hm
    have hlt : i < ps.length := by rw [← hu]; exact (List.getElem?_eq_some_iff.1 hi).1
    exact (he i us _ hi (List.getElem?_eq_getElem hlt)).five
  obtain ⟨us, hus⟩ : ∃ us, uss[k]? = some us := ⟨_, List.getElem?_eq_getElem (show k < uss.length by omega)⟩
  have hist := he k us t hus hk
  have hf := hist.five
  have hmg := flat5 uss h5 k us hus
  obtain ⟨b, off, e1, e2, e3⟩ := h (by
    intro h0
    have := hmg 0 _ (List.getElem?_eq_getElem (by omega))
    rw [h0] at this
    simp at this)
  exact ⟨us, b, off, e1, e2, hus, hist, hf, fun j x hx => by rw [Nat.add_assoc]; exact e3 _ _ (hmg j x hx)⟩
section
variable {w : World} {F : Nat → Prop}
set_option maxRecDepth 100000 in
set_option maxHeartbeats 800000 in
theorem ours_one {k : Int} {b : Bool} {s : List UInt8} {Ak Ap : Option Addr} {ck cp : Nat} {ks : List (List UInt8)} {uss : List (List Value)} {ps : List TR} (ih : ∀ t ∈ ps, OU t) (hsm : ∀ p ∈ ps, Sm p) (hps : ps.length ≤ 1048576) (hu : uss.length = ps.length) (hrk : Rd w F Ak (strs ks)) (hrp : Rd w F Ap uss.flatten)
    (he : ∀ (i : Nat) (us : List Value) (t : TR), uss[i]? = some us → ps[i]? = some t → IsT w F us t) (hF : ∀ k, F k → k < w.heap.size) :
    Calls Tryd.prog 15 #[.agg #[.int .i64 k, .bool b, .string ⟨s.toArray⟩, .slice Ak ks.length ck, .slice Ap ps.length cp]] w fun e w' => ∃ us', e = .returned (.agg us'.toArray) ∧ Below w.heap.size w w' ∧ IsT w' (fun k => w.heap.size ≤ k ∧ k < w'.heap.size) us' (oursT (.mk k b s ks ps)) := by
  obtain ⟨sb, hsb⟩ : ∃ sb : ByteArray, sb = ⟨s.toArray⟩ := ⟨_, rfl⟩
  have HSB := Lib.hid hsb
  obtain ⟨T0, hT0⟩ : ∃ T0 : Array Value, T0 = #[.int .i64 k, .bool b, .string sb, .slice Ak ks.length ck, .slice Ap ps.length cp] := ⟨_, rfl⟩
  obtain ⟨w3, hw3⟩ : ∃ w3, w3 = (((w.alloc (.cells #[.int .i64 k, .bool b, .string sb, .slice Ak ks.length ck, .slice Ap ps.length cp] 25)).alloc (.cells #[.int .i64 0, .bool false, .string ⟨#[]⟩, .slice none 0 0, .slice none 0 0] 35)).alloc (.cells #[.int .i64 k, .bool b, .string sb, .slice none 0 0, .slice none 0 0] 35)) := ⟨_, rfl⟩
  obtain ⟨B, hBe⟩ : ∃ B, B = w.heap.size := ⟨_, rfl⟩
  have h3 : Below B w w3 ∧ w3.heap[B]? = some (.cells T0 25 (0, 0)) ∧ w3.heap[B + 1]? = some (.cells #[.int .i64 0, .bool false, .string ⟨#[]⟩, .slice none 0 0, .slice none 0 0] 35 (0, 0)) ∧ w3.heap[B + 1 + 1]? = some (.cells #[.int .i64 k, .bool b, .string sb, .slice none 0 0, .slice none 0 0] 35 (0, 0)) ∧ w3.heap.size = B + 3 := by
    have b1 : Below B w (w.alloc (.cells T0 25)) := by rw [hBe]; exact (Below.refl _ _).alloc (Nat.le_refl _) _
    have e1 := heap_alloc_new w (.cells T0 25)
    have s1 : (w.alloc (.cells T0 25)).heap.size = B + 1 := by rw [hBe]; simp
    rw [← hBe] at e1
    rw [← hT0] at hw3
    generalize w.alloc (.cells T0 25) = w1 at *
    have e2 := heap_alloc_new w1 (.cells #[.int .i64 0, .bool false, .string ⟨#[]⟩, .slice none 0 0, .slice none 0 0] 35)
    have b2 : Below (B + 1) w1 (w1.alloc (.cells #[.int .i64 0, .bool false, .string ⟨#[]⟩, .slice none 0 0, .slice none 0 0] 35)) := (Below.refl _ _).alloc (by omega) _
    have s2 : (w1.alloc (.cells #[.int .i64 0, .bool false, .string ⟨#[]⟩, .slice none 0 0, .slice none 0 0] 35)).heap.size = B + 1 + 1 := by simp [s1]
    rw [s1] at e2
    generalize w1.alloc (.cells #[.int .i64 0, .bool false, .string ⟨#[]⟩, .slice none 0 0, .slice none 0 0] 35) = w2 at *
    have e3 := heap_alloc_new w2 (.cells #[.int .i64 k, .bool b, .string sb, .slice none 0 0, .slice none 0 0] 35)
    have b3 : Below (B + 1 + 1) w2 (w2.alloc (.cells #[.int .i64 k, .bool b, .string sb, .slice none 0 0, .slice none 0 0] 35)) := (Below.refl _ _).alloc (by omega) _
    rw [s2, ← hw3] at e3
    rw [← hw3] at b3
    refine ⟨b1.trans ((b2.mono (by omega)).trans (b3.mono (by omega))), ?_, ?_, e3, by rw [hw3]; simp [s2]⟩
    · exact (b3.block B (by omega)).trans ((b2.block B (by omega)).trans e1)
    · exact (b3.block (B + 1) (by omega)).trans e2
  rw [← hsb]
  have HU := Lib.hid hu
  have IH := Lib.hid ih
  have SMS := Lib.hid hsm
  have HE := Lib.hid he
  have HRP := Lib.hid hrp
  have HRK := Lib.hid hrk
  have HF := Lib.hid hF
  have HPS := Lib.hid hps
  have H3 := Lib.hid h3
  have HBe := Lib.hid hBe
  have HT0 := Lib.hid hT0
  have HW3 := Lib.hid hw3
  -- what lies where, as long as blocks below B + 2 stay
  have CELL : Hid (∀ wr, Below (B + 2) w3 wr → wr.cell? ⟨B, 3, none⟩ = some (.slice Ak ks.length ck) ∧ wr.cell? ⟨B, 4, none⟩ = some (.slice Ap ps.length cp)) := by
    intro wr hb
    have h1 := (hb.block B (by omega)).trans h3.2.1
    rw [hT0] at h1
    exact ⟨cell_of_row wr B 3 _ _ _ h1, cell_of_row wr B 4 _ _ _ h1⟩
  have OLD : Hid (∀ wr, Below (B + 2) w3 wr → ∀ q, q < B → wr.heap[q]? = w.heap[q]?) := fun wr hb q hq => (hb.block q (by omega)).trans (h3.1.block q hq)
  clear hu ih hsm he hrp hrk hF hps h3 hsb hT0
  go_enter Tryd.func15, Tryd.ntmps15
  go_wp2
  rw [← hw3, ← hBe]
  clear hw3 hBe
  go_loopw [16] (fun iv wr => ∃ (i : Nat) (kv pv : Value) (us2 : List (List Value)), i ≤ ps.length ∧ iv = .int .i64 (i : Int) ∧ wr.heap[B + 1 + 1]? = some (.cells #[.int .i64 k, .bool b, .string sb, kv, pv] 35 (0, 0)) ∧ TT wr (B + 3) kv pv ((keysOf ks ps.length).take i) us2 ((oursTL ps).take i) ∧ Below (B + 2) w3 wr) (fun iv _ => ps.length - (intOf iv).toNat)
  case atStart => exact ⟨0, _, _, [], Nat.zero_le _, rfl, H3.out.2.2.2.1, TT.nil _ _, Below.refl _ _⟩
  case round =>
    obtain ⟨i, kv, pv, us2, hi, rfl, hcell, hT, hB⟩ := hrel
    by_cases hlt : i < ps.length
    · obtain ⟨t, ht⟩ : ∃ t, ps[i]? = some t := ⟨_, List.getElem?_eq_getElem hlt⟩
      obtain ⟨us, b0, off, rfl, hb0, hus, hist, h5, hcs⟩ := HRP.out.row HU.out HE.out ht
      have hB0 : b0 < B := by rw [HBe.out]; exact HF.out b0 hb0
      have hrow : wr.rangeAt b0 (off + i * 5) us.toArray.toList := by
        intro j x hx
        have hx' : us[j]? = some x := hx
        rw [World.cell?_of_block (w := w) (a := ⟨b0, off + i * 5 + j, none⟩) (OLD.out wr hB b0 hB0)]
        exact hcs j x hx'
      have hz5 : (Tryd.prog.info? 25).map (·.size) = some us.toArray.size := by
        have : us.toArray.size = 5 := by simpa using h5
        rw [this]
        exact lawtree5
      obtain ⟨KB, hKB⟩ : ∃ KB : ByteArray, KB = ⟨(ks.getD i []).toArray⟩ := ⟨_, rfl⟩
      obtain ⟨f3, f4⟩ := CELL.out wr hB
      have hiI : (i : Int) < (ps.length : Int) := by omega
      have hi0 : (0 : Int) ≤ (i : Int) := by omega
      have HI3 : Hid ((i : Int) + 1 ≤ 1048576) := by show _ ≤ _; have := HPS.out; omega
      have hd : decide (i < ps.length) = true := by simp; omega
      obtain ⟨Ak', ck', Ap', cp', rfl, rfl⟩ := hT.form
      have hkl : ((keysOf ks ps.length).take i).length = i := by rw [List.length_take, keysOf_len]; omega
      have hpl : ((oursTL ps).take i).length = i := by rw [List.length_take, oursTL_map, List.length_map]; omega
      rw [hkl, hpl] at hcell hT
      have HT := Lib.hid hT
      have HB := Lib.hid hB
      have HCELL := Lib.hid hcell
      have HLT := Lib.hid hlt
      have HKB := Lib.hid hKB
      have HROW := Lib.hid hrow
      have HIST := Lib.hid hist
      have HKL := Lib.hid (And.intro hkl hpl)
      have HK1 : Hid (wr.ownsRow (B + 3) 9 1 (.slice Ak' i ck') i (strs ((keysOf ks ps.length).take i))) := by have h_ := hT.keys; rw [hkl] at h_; exact h_
      have HB0 := Lib.hid hB0
      have HTI := Lib.hid ht
      have fk : wr.cell? ⟨B + 1 + 1, 3, none⟩ = some (.slice Ak' i ck') := cell_of_row wr (B + 1 + 1) 3 _ _ _ hcell
      have fp : wr.cell? ⟨B + 1 + 1, 4, none⟩ = some (.slice Ap' i cp') := cell_of_row wr (B + 1 + 1) 4 _ _ _ hcell
      clear hT hB hcell hlt hKB hrow hist hkl hpl hb0 hus h5 hcs hB0 ht hi
      go_upto_if 23 with (fail)
      go_cut [5] from 23 to 46 (fun v w' => v = .string KB ∧ w' = wr)
      case first =>
        by_cases hik : i < ks.length
        · have hkk := strs_get ks i _ (List.getElem?_eq_getElem hik)
          obtain ⟨bk, offk, rfl, hbk, hck⟩ := HRK.out (by intro h0; rw [h0] at hkk; simp at hkk)
          have hgd : ks.getD i [] = ks[i] := by simp [List.getD, List.getElem?_eq_getElem hik]
          have hckk : wr.cell? ⟨bk, offk + i, none⟩ = some (.string KB) := by
            rw [HKB.out, hgd, World.cell?_of_block (w := w) (a := ⟨bk, offk + i, none⟩) (OLD.out wr HB.out bk (by rw [HBe.out]; exact HF.out bk hbk))]
            exact hck i _ hkk
          have hikI : (i : Int) < (ks.length : Int) := by omega
          have hd2 : decide (i < ks.length) = true := by simp; omega
          clear hkk hck hgd hbk
          rw [hd2]
          go_wp2
          go_meet
          case rel => exact ⟨rfl, rfl⟩
        · have hgd : ks.getD i [] = [] := by simp [List.getD, List.getElem?_eq_none (show ks.length ≤ i by omega)]
          have hd2 : decide (i < ks.length) = false := by simp; omega
          have hn2 : ¬ (i : Int) < (ks.length : Int) := by omega
          rw [hd2]
          go_wp2
          go_meet
          case rel => exact ⟨by rw [HKB.out, hgd], rfl⟩
      case rest =>
        obtain ⟨rfl, rfl⟩ := hcut
        obtain ⟨j0, hj0, jz0, jz1, jz2⟩ := info_parts strinfo
        obtain ⟨wb, hwb⟩ : ∃ wb, wb = wc.alloc (.cells #[.string KB] 9) := ⟨_, rfl⟩
        have hbb : Below wc.heap.size wc wb := by rw [hwb]; exact (Below.refl _ _).alloc (Nat.le_refl _) _
        have HBB := Lib.hid hbb
        have HTB := Lib.hid (HT.out.below hbb)
        have hcb : wb.heap[B + 1 + 1]? = some (.cells #[.int .i64 k, .bool b, .string sb, .slice Ak' i ck', .slice Ap' i cp'] 35 (0, 0)) := heap_below HCELL.out hbb
        have HCB := Lib.hid hcb
        have hnb : wb.heap[wc.heap.size]? = some (.cells #[.string KB] 9 (0, 0)) := by rw [hwb]; exact heap_alloc_new _ _
        have HKB1 : Hid (wb.ownsRow (B + 3) 9 1 (.slice Ak' i ck') i (strs ((keysOf ks ps.length).take i))) := by have h_ := HTB.out.keys; rw [HKL.out.1] at h_; exact h_
        have HNB := Lib.hid hnb
        have HWB := Lib.hid hwb
        have HBS : Hid (B + 3 ≤ wb.heap.size) := by show _ ≤ _; have h1_ := H3.out.2.2.2.2; have h2_ := HB.out.size; have h3_ := hbb.size; omega
        have HNK : Hid ((Value.slice Ak' i ck').ownBlock ≠ some (B + 1 + 1)) := fun e => by have := (HTB.out.klt _ e).1; omega
        have HNP : Hid ((Value.slice Ap' i cp').ownBlock ≠ some (B + 1 + 1)) := fun e => by have := (HTB.out.plt _ e).1; omega
        clear hwb hbb hcb hnb
        go_upto_region 9 with (at_builtin; go_loud (rw [← HWB.out]; refine app1 (cs := #[.string KB]) (n := i) (s := 1) (base := B + 3) rfl rfl rfl rfl Tryd.underlying22 hj0 jz0 jz1 jz2 rfl (by decide) HKB1.out HNB.out rfl (by simp; rfl) (by have h_ := HI3.out; omega) (by have h_ := HI3.out; omega) HBS.out ?_; intro kv2 w5 ho5 hg5 hb5; obtain ⟨A5, n5, hv5, _, _⟩ := own_rd ho5; subst hv5; have hc5 := own_other HCB.out hg5 HNK.out; have c5 : w5.cell? ⟨B + 1 + 1, 3, none⟩ = some (.slice Ak' i ck') := cell_of_row w5 (B + 1 + 1) 3 _ _ _ hc5; have f5 := frozen_row hc5 3; have HC5 := Lib.hid hc5; have HT5 := Lib.hid (HTB.out.key (key := ks.getD i []) (by rw [HKL.out.1]) (by rw [← HKB.out]; exact ho5) hg5 hb5); have HG5 := Lib.hid hg5; clear ho5 hg5 hb5 hc5))
        obtain ⟨w6, hw6⟩ : ∃ w6, w6 = w5.setCell ⟨B + 1 + 1, 3, none⟩ (.slice A5 (i + 1) n5) := ⟨_, rfl⟩
        have hc6 : w6.heap[B + 1 + 1]? = some (.cells #[.int .i64 k, .bool b, .string sb, .slice A5 (i + 1) n5, .slice Ap' i cp'] 35 (0, 0)) := by rw [hw6]; exact heap_setCell_same _ _ _ _ _ _ HC5.out
        have HT6 : Hid (TT w6 (B + 3) (.slice A5 (i + 1) n5) (.slice Ap' i cp') ((keysOf ks ps.length).take i ++ [ks.getD i []]) us2 ((oursTL ps).take i)) := by rw [hw6]; exact HT5.out.setCell (by show B + 1 + 1 < B + 3; omega) _
        have hb6 : Below (B + 2) w3 w6 := by
          have h1_ := HB.out.trans (HBB.out.mono (by have h1_ := H3.out.2.2.2.2; have h2_ := HB.out.size; omega))
          have h2_ : Below (B + 2) w3 w5 := h1_.grown HG5.out (by have h3_ := HBS.out; omega) (fun q hq => by have h3_ := (HTB.out.klt q hq).1; omega)
          rw [hw6]
          exact h2_.setCell (by show B + 2 ≤ B + 1 + 1; omega) _
        have HC6 := Lib.hid hc6
        have HB6 := Lib.hid hb6
        rw [← hw6]
        clear hw6 hc6 hb6 c5 f5 fk fp f3 f4
        -- what stays through what follows, as long as old blocks stay
        have STAY : Hid (∀ wy, Below w6.heap.size w6 wy → wy.cell? ⟨B + 1 + 1, 4, none⟩ = some (.slice Ap' i cp') ∧ wy.cell? ⟨B, 4, none⟩ = some (.slice (some ⟨b0, off, none⟩) ps.length cp) ∧ wy.rangeAt b0 (off + i * 5) us.toArray.toList ∧ Below (B + 2) w3 wy ∧ wy.heap[B + 1 + 1]? = some (.cells #[.int .i64 k, .bool b, .string sb, .slice A5 (i + 1) n5, .slice Ap' i cp'] 35 (0, 0))) := by
          intro wy hby
          have h0_ := heap_below HC6.out hby
          have h1_ := HB6.out.trans (hby.mono (by have h1_ := lt_of_heap HC6.out; omega))
          refine ⟨cell_of_row wy (B + 1 + 1) 4 _ _ _ h0_, (CELL.out wy h1_).2, ?_, h1_, h0_⟩
          intro j x hx
          have h2_ := HROW.out j x hx
          rw [World.cell?_of_block (w := w) (a := ⟨b0, off + i * 5 + j, none⟩) (OLD.out wc HB.out b0 HB0.out)] at h2_
          rw [World.cell?_of_block (w := w) (a := ⟨b0, off + i * 5 + j, none⟩) (OLD.out wy h1_ b0 HB0.out)]
          exact h2_
        refine AnyCZ.start [11] (fun w' => w'.cell? ⟨B + 1 + 1, 4, none⟩ = some (.slice Ap' i cp') ∧ w'.cell? ⟨B, 4, none⟩ = some (.slice (some ⟨b0, off, none⟩) ps.length cp) ∧ w'.rangeAt b0 (off + i * 5) us.toArray.toList) (by kernel_rfl) rfl ?_
        intro w1 hb1
        have B1 := Lib.hid hb1
        have S1 := Lib.hid (STAY.out w1 hb1)
        clear hb1
        apply AnyCZ.take (i := 0) rfl (by kernel_rfl) (by kernel_rfl) rfl
        · intro w' hC K hK
          go_wp2
          exact hK
        · rfl
        apply AnyCZ.take (i := 1) rfl (by kernel_rfl) (by kernel_rfl) rfl
        · intro w' hC K hK
          have cc := hC.1
          go_wp2
          exact hK
        · rfl
        apply AnyCZ.take (i := 2) rfl (by kernel_rfl) (by kernel_rfl) rfl
        · intro w' hC K hK
          go_wp2
          exact hK
        · rfl
        apply AnyCZ.take (i := 3) rfl (by kernel_rfl) (by kernel_rfl) rfl
        · intro w' hC K hK
          have cc := hC.2.1
          go_wp2
          exact hK
        · rfl
        apply AnyCZ.take (i := 4) rfl (by kernel_rfl) (by kernel_rfl) rfl
        · intro w' hC K hK
          go_wp2
          exact hK
        · rfl
        apply AnyCZ.take (i := 5) rfl (by kernel_rfl) (by kernel_rfl) rfl
        · intro w' hC K hK
          go_wp2
          exact hK
        · rfl
        apply AnyCZ.take (i := 6) rfl (by kernel_rfl) (by kernel_rfl) rfl
        · intro w' hC K hK
          refine wpList_load_arr rfl _ _ rfl b0 (off + i * 5) rfl us.toArray _ (by with_reducible exact hC.2.2) Tryd.underlying25 rfl (by with_reducible exact hz5) ?_
          go_wp2
          exact hK
        · rfl
        apply AnyCZ.solo (i := 7) rfl (by kernel_rfl) ⟨S1.out.1, S1.out.2.1, S1.out.2.2.1⟩
        have HCALL := Lib.hid (IH.out t (List.mem_of_getElem? HTI.out) w1 F us (HIST.out.keep (fun q hq => OLD.out w1 S1.out.2.2.2.1 q (by rw [HBe.out]; exact HF.out q hq)) (fun q hq => hq)) (fun q hq => by have h1_ := HF.out q hq; have h2_ := B1.out.size; have h3_ := lt_of_heap HC6.out; have h4_ := HBe.out; omega) (SMS.out t (List.mem_of_getElem? HTI.out)))
        go_wp2_with (go_at_call 15; go_must (refine HCALL.out.mono ?_; rintro e w2 ⟨us', rfl, hb2, hist2⟩))
        refine ⟨rfl, ?_⟩
        have B2 := Lib.hid (B1.out.trans (hb2.mono B1.out.size))
        have S2 := Lib.hid (STAY.out w2 B2.out)
        have H5 := Lib.hid hist2.five
        have HONE := Lib.hid hist2.ones
        have HI2 := Lib.hid hist2
        clear hb2 hist2
        obtain ⟨l0, hl0, lz0, lz1, lz2⟩ := info_parts treeinfo
        apply AnyCZ.solo (i := 8) rfl (by kernel_rfl) ⟨S2.out.1, S2.out.2.1, S2.out.2.2.1⟩
        refine slice1 rfl rfl rfl (s := 5) (cs := us'.toArray) (by simpa using H5.out) Tryd.underlying33 hl0 lz0 lz1 (by decide) ?_
        go_wp2
        refine ⟨rfl, ?_⟩
        obtain ⟨w8, hw8⟩ : ∃ w8, w8 = w2.alloc (.cells us'.toArray 35) := ⟨_, rfl⟩
        have hb8 : Below w2.heap.size w2 w8 := by rw [hw8]; exact (Below.refl _ _).alloc (Nat.le_refl _) _
        have hblk : w8.heap[w2.heap.size]? = some (.cells us'.toArray 35 (0, 0)) := by rw [hw8]; exact heap_alloc_new _ _
        rw [← hw8]
        have B8 := Lib.hid (B2.out.trans (hb8.mono B2.out.size))
        have HB8 := Lib.hid hb8
        have S8 := Lib.hid (STAY.out w8 B8.out)
        have HT2 := Lib.hid (HT6.out.below B2.out)
        have HT8 := Lib.hid (HT6.out.below B8.out)
        have HP8 : Hid (w8.ownsRow (B + 3) 35 5 (.slice Ap' i cp') i us2.flatten) := by have h_ := HT8.out.parts; rw [HKL.out.2] at h_; exact h_
        have HBK := Lib.hid hblk
        clear hw8 hb8 hblk
        apply AnyCZ.solo (i := 9) rfl (by kernel_rfl) ⟨S8.out.1, S8.out.2.1, S8.out.2.2.1⟩
        refine app1 (cs := us'.toArray) (n := i) (s := 5) (base := B + 3) rfl rfl rfl rfl Tryd.underlying33 hl0 lz0 lz1 lz2 rfl (by decide) HP8.out HBK.out (by simpa using H5.out) HONE.out (by have h_ := HI3.out; omega) (by have h_ := HI3.out; omega) (by have h1_ := B8.out.size; have h2_ := lt_of_heap HC6.out; omega) ?_
        intro pv9 w9 ho9 hg9 hb9
        obtain ⟨A9, n9, hv9, _, _⟩ := own_rd ho9
        subst hv9
        have HT9 := Lib.hid (HT2.out.part (m := w1.heap.size) (fun q hq => by have h1_ := (HT6.out.klt q hq).2; have h2_ := B1.out.size; omega) (fun q hq => by have h1_ := (HT6.out.plt q hq).2; have h2_ := B1.out.size; omega) HI2.out HB8.out (by rw [HKL.out.2]) rfl ho9 hg9 hb9 (by have h1_ := B1.out.size; have h2_ := lt_of_heap HC6.out; omega))
        have HNP9 : Hid ((Value.slice Ap' i cp').ownBlock ≠ some (B + 1 + 1)) := HNP
        have hc9 := own_other S8.out.2.2.2.2 hg9 HNP9.out
        have c9 : w9.cell? ⟨B + 1 + 1, 4, none⟩ = some (.slice Ap' i cp') := cell_of_row w9 (B + 1 + 1) 4 _ _ _ hc9
        have f9 := frozen_row hc9 4
        have HC9 := Lib.hid hc9
        have HG9 := Lib.hid hg9
        clear ho9 hg9 hb9 hc9
        go_wp2
        refine ⟨rfl, ?_⟩
        have HB9 : Hid (Below (B + 2) w3 w9) := S8.out.2.2.2.1.grown HG9.out (by have h1_ := B8.out.size; have h2_ := lt_of_heap HC6.out; omega) (fun q hq => by have h_ := (HT8.out.plt q hq).1; omega)
        apply AnyCZ.take (i := 10) rfl (by kernel_rfl) (by kernel_rfl) rfl
        · intro w' hC K hK
          go_wp2
          exact hK
        · rfl
        apply AnyCZ.soloW (i := 11) rfl (by kernel_rfl) ⟨c9, (CELL.out w9 HB9.out).2, fun j x hx => by
          have h2_ := HROW.out j x hx
          rw [World.cell?_of_block (w := w) (a := ⟨b0, off + i * 5 + j, none⟩) (OLD.out wc HB.out b0 HB0.out)] at h2_
          rw [World.cell?_of_block (w := w) (a := ⟨b0, off + i * 5 + j, none⟩) (OLD.out w9 HB9.out b0 HB0.out)]
          exact h2_⟩
        go_wp2
        refine ⟨rfl, ?_⟩
        refine AnyW.done (by kernel_rfl) ?_
        have hi3 := HI3.out
        go_wp2
        go_roundw
        case rel =>
          refine ⟨i + 1, _, _, us2 ++ [us'], HLT.out, by go_num, heap_setCell_same _ _ _ _ _ _ HC9.out, ?_, HB9.out.setCell (by show B + 2 ≤ B + 1 + 1; omega) _⟩
          rw [keysOf_take _ _ _ HLT.out, oursTL_take _ _ _ HTI.out]
          exact HT9.out.setCell (by show B + 1 + 1 < B + 3; omega) _
        case measure => have := HLT.out; simp [intOf]; omega
    · obtain rfl : i = ps.length := by omega
      have hd : decide (ps.length < ps.length) = false := by simp
      rw [List.take_of_length_le (by rw [keysOf_len]; omega), List.take_of_length_le (by rw [oursTL_map, List.length_map]; omega)] at hT
      obtain ⟨Ak', ck', Ap', cp', rfl, rfl⟩ := hT.form
      obtain ⟨nk, hnk⟩ : ∃ nk, nk = (keysOf ks ps.length).length := ⟨_, rfl⟩
      obtain ⟨np, hnp⟩ : ∃ np, np = (oursTL ps).length := ⟨_, rfl⟩
      rw [← hnk, ← hnp] at hT hcell
      have hres := (hB.block (B + 1) (by omega)).trans H3.out.2.2.1
      have g0 : wr.cell? ⟨B + 1 + 1, 0, none⟩ = some (.int .i64 k) := cell_of_row wr _ 0 _ _ _ hcell
      have g1 : wr.cell? ⟨B + 1 + 1, 1, none⟩ = some (.bool b) := cell_of_row wr _ 1 _ _ _ hcell
      have g2 : wr.cell? ⟨B + 1 + 1, 2, none⟩ = some (.string sb) := cell_of_row wr _ 2 _ _ _ hcell
      have g3 : wr.cell? ⟨B + 1 + 1, 3, none⟩ = some (.slice Ak' nk ck') := cell_of_row wr _ 3 _ _ _ hcell
      have g4 : wr.cell? ⟨B + 1 + 1, 4, none⟩ = some (.slice Ap' np cp') := cell_of_row wr _ 4 _ _ _ hcell
      have r0 : wr.cell? ⟨B + 1, 0, none⟩ = some (.int .i64 0) := cell_of_row wr _ 0 _ _ _ hres
      have r1 : wr.cell? ⟨B + 1, 1, none⟩ = some (.bool false) := cell_of_row wr _ 1 _ _ _ hres
      have r2 : wr.cell? ⟨B + 1, 2, none⟩ = some (.string ⟨#[]⟩) := cell_of_row wr _ 2 _ _ _ hres
      have r3 : wr.cell? ⟨B + 1, 3, none⟩ = some (.slice none 0 0) := cell_of_row wr _ 3 _ _ _ hres
      have r4 : wr.cell? ⟨B + 1, 4, none⟩ = some (.slice none 0 0) := cell_of_row wr _ 4 _ _ _ hres
      have z0 := frozen_row hres 0
      have z1 := frozen_row hres 1
      have z2 := frozen_row hres 2
      have z3 := frozen_row hres 3
      have z4 := frozen_row hres 4
      have HT := Lib.hid hT
      have HB := Lib.hid hB
      have HRES := Lib.hid hres
      clear hcell hres hT hB hi hlt hnk hnp
      go_wp2
      obtain ⟨w9, hw9⟩ : ∃ w9, w9 = (((((wr.setCell ⟨B + 1, 0, none⟩ (.int .i64 k)).setCell ⟨B + 1, 1, none⟩ (.bool b)).setCell ⟨B + 1, 2, none⟩ (.string sb)).setCell ⟨B + 1, 3, none⟩ (.slice Ak' nk ck')).setCell ⟨B + 1, 4, none⟩ (.slice Ap' np cp')) := ⟨_, rfl⟩
      have h9 : w9.heap[B + 1]? = some (.cells #[.int .i64 k, .bool b, .string sb, .slice Ak' nk ck', .slice Ap' np cp'] 35 (0, 0)) := by
        rw [hw9]
        have e1 := heap_setCell_same wr (B + 1) 0 _ _ (.int .i64 k) HRES.out
        have e2 := heap_setCell_same _ (B + 1) 1 _ _ (.bool b) e1
        have e3 := heap_setCell_same _ (B + 1) 2 _ _ (.string sb) e2
        have e4 := heap_setCell_same _ (B + 1) 3 _ _ (.slice Ak' nk ck') e3
        exact heap_setCell_same _ (B + 1) 4 _ _ (.slice Ap' np cp') e4
      have hb9 : Below B w w9 := by
        rw [hw9]
        have b0 : Below B w wr := H3.out.1.trans (HB.out.mono (by omega))
        exact ((((b0.setCell (by show B ≤ B + 1; omega) _).setCell (by show B ≤ B + 1; omega) _).setCell (by show B ≤ B + 1; omega) _).setCell (by show B ≤ B + 1; omega) _).setCell (by show B ≤ B + 1; omega) _
      have hT9 : TT w9 (B + 3) (.slice Ak' nk ck') (.slice Ap' np cp') (keysOf ks ps.length) us2 (oursTL ps) := by
        rw [hw9]
        exact ((((HT.out.setCell (by show B + 1 < B + 3; omega) _).setCell (by show B + 1 < B + 3; omega) _).setCell (by show B + 1 < B + 3; omega) _).setCell (by show B + 1 < B + 3; omega) _).setCell (by show B + 1 < B + 3; omega) _
      rw [← hw9]
      have H9 := Lib.hid (And.intro hb9 hT9)
      clear hw9 hb9 hT9 g0 g1 g2 g3 g4 r0 r1 r2 r3 r4 z0 z1 z2 z3 z4
      refine bodyPost_ret (results_cell_row rfl _ w9 (B + 1) _ _ _ _ rfl h9 Tryd.underlying35 rfl tree5) rfl ?_
      refine ⟨[.int .i64 k, .bool b, .string sb, .slice Ak' nk ck', .slice Ap' np cp'], rfl, by rw [← HBe.out]; exact H9.out.1, ?_⟩
      have h_ := H9.out.2.isT k b s
      rw [← HSB.out] at h_
      rw [oursT]
      exact h_.keep (fun _ _ => rfl) (fun q hq => ⟨by rw [← HBe.out]; omega, hq.2⟩)
end
theorem ou_all : ∀ (n : Nat) (t : TR), SizeOf.sizeOf t ≤ n → OU t
  | 0, t, hn => by cases t; simp at hn
  | n + 1, t, hn => by
    intro w F us hv hF hsm
    cases hv with
    | mk k b s Ak ck ks Ap cp uss ps hu hk hp he =>
      cases hsm with
      | mk _ _ _ _ _ hps hsub =>
        exact ours_one (fun p hm => ou_all n p (by
          have := List.sizeOf_lt_of_mem hm
          simp at hn
          omega)) hsub hps hu hk hp he hF
/-- The law's ours. -/
theorem ours_any {w : World} {F : Nat → Prop} {us : List Value} {t : TR} (h : IsT w F us t) (hF : ∀ k, F k → k < w.heap.size) (hs : Sm t) : Calls Tryd.prog 15 #[.agg us.toArray] w fun e w' => ∃ us', e = .returned (.agg us'.toArray) ∧ Below w.heap.size w w' ∧ IsT w' (fun k => w.heap.size ≤ k ∧ k < w'.heap.size) us' (oursT t) :=
  ou_all _ t (Nat.le_refl _) w F us h hF hs
end Go.Proofs.YtkbopeoaoakfnaaDoor
