/- The texts Y7 Y8 of this work, merged by wip/merge.py. No conditions. -/
import Derived.Test.YtbcpmnnlhdgbhaaGreatDoorQG33
namespace Go.Proofs.YtbcpmnnlhdgbhaaGreatDoor
open Go.RowKit
/-- What read makes of the sectors: at most m of them. -/
def readF (secs : List (List UInt8)) (n : Nat) : Nat → Nat → UInt8 → List UInt8 → Option (List UInt8)
  | 0, _, _, acc => some (acc.take n)
  | m + 1, at_, kind, acc => if n ≤ acc.length then some (acc.take n) else if (secs.getD at_ []).getD 0 0 = kind then readF secs n m (at_ + 1) 2 (acc ++ (secs.getD at_ []).drop 1) else none
theorem readF_done {secs : List (List UInt8)} {n : Nat} {acc : List UInt8} (h : n ≤ acc.length) (m at_ : Nat) (k : UInt8) : readF secs n m at_ k acc = some (acc.take n) := by
  cases m with
  | zero => rfl
  | succ m => rw [readF, if_pos h]
def ReadFPost (r : Option (List UInt8)) (n : Nat) (w : World) (e : Ending) (w' : World) : Prop :=
  Below w.heap.size w w' ∧ ((r = none ∧ e = .returned (.tuple #[.slice none 0 0, .int .i64 0])) ∨ ∃ l A c, r = some l ∧ l.length = n ∧ e = .returned (.tuple #[.slice A n c, .int .i64 0]) ∧ n ≤ c ∧ Reads w' w'.heap.size 1 A n (bvs l) ∧ (∃ g, A = some ⟨g, 0, none⟩ ∧ w.heap.size ≤ g))
theorem read_v {secs : List (List UInt8)} {full : Bool} {f : Int} {at_ : Nat} (h : at_ < secs.length) : (dst secs full f).read (at_ : Int) = (secs.getD at_ [], 0) := by
  have h1 := read_in (s := dst secs full f) (n := (at_ : Int)) (show (0 : Int) ≤ (at_ : Int) ∧ (at_ : Int) < (secs.length : Int) by omega) rfl
  rw [h1]
  unfold DS.peek
  rw [Int.toNat_natCast]
  rfl
theorem sec64 {w : World} {base gd gl : Nat} {own od : Nat → Prop} {secs : List (List UInt8)} {full : Bool} {f : Int} {S P rv : Value} {p : Int} {recs : List (List UInt8)} {vs : List Value} (h : LGx w base own od gd gl (dst secs full f) S P p rv recs vs) {at_ : Nat} (hat : at_ < secs.length) : (secs.getD at_ []).length = 64 := by
  have := h.dsk.ok.secs (secs.getD at_ []) (by
    rw [List.getD_eq_getElem?_getD, List.getElem?_eq_getElem hat]
    exact List.getElem_mem _)
  exact this
theorem LGx.keep {w w' : World} {base gd gl : Nat} {own od : Nat → Prop} {s : DS} {S P rv : Value} {p : Int} {recs : List (List UInt8)} {vs : List Value} (h : LGx w base own od gd gl s S P p rv recs vs) (hsz : w.heap.size ≤ w'.heap.size) (hk : ∀ k, own k → w'.heap[k]? = w.heap[k]?) : LGx w' base own od gd gl s S P p rv recs vs :=
  ⟨⟨h.dsk.ok, (hk gd (h.sub _ h.dsk.ownG)).trans h.dsk.blk, row_at h.dsk.rowS (fun k e => hk k (h.sub _ (h.dsk.ownS k e))), row_at h.dsk.rowP (fun k e => hk k (h.sub _ (h.dsk.ownP k e))), h.dsk.ownG, h.dsk.ownS, h.dsk.ownP, fun k e => ⟨(h.dsk.bnd k e).1, Nat.lt_of_lt_of_le (h.dsk.bnd k e).2 hsz⟩, h.dsk.gS, h.dsk.gP, h.dsk.sP⟩,
    h.sub, (hk gl h.ogl).trans h.blk, h.ogl, h.dgl, lst_at h.lst (fun k e => hk k (h.ror k e).1) (fun u hu k e => hk k (h.mor u hu k e).1), h.ror, h.mor, fun k e => ⟨(h.bnd k e).1, Nat.lt_of_lt_of_le (h.bnd k e).2 hsz⟩⟩
structure ReadI (w : World) (base : Nat) (own od : Nat → Prop) (gd gl : Nat) (s : DS) (S P : Value) (p : Int) (rv : Value) (recs : List (List UInt8)) (vs : List Value) (n m0 at0 : Nat) (a' : Nat) (bv_ : Value) (kI : Int) (wr : World) : Prop where
  ex : ∃ (acc : List UInt8) (m : Nat) (k : UInt8), kI = (k.toNat : Int) ∧ Own8 wr w.heap.size bv_ acc ∧ Below w.heap.size w wr ∧ LGx wr base own od gd gl s S P p rv recs vs ∧ readF s.secs n m0 at0 1 [] = readF s.secs n m a' k acc ∧ (n - acc.length + 62) / 63 ≤ m ∧ a' + m ≤ s.secs.length ∧ acc.length ≤ n + 62
set_option maxRecDepth 100000 in
set_option maxHeartbeats 4000000 in
theorem read_any {w : World} {base gd gl : Nat} {own od : Nat → Prop} {secs : List (List UInt8)} {full : Bool} {f : Int} {S P rv : Value} {p : Int} {recs : List (List UInt8)} {vs : List Value} (h : LGx w base own od gd gl (dst secs full f) S P p rv recs vs) (at_ n m : Nat) (hn : 20 ≤ n) (hn2 : n ≤ 100000) (hm : (n + 62) / 63 ≤ m) (hat : at_ + m ≤ secs.length) :
    Calls Tryz.prog 145 #[.pointer (some ⟨gl, 0, none⟩), .int .i64 (at_ : Int), .int .i64 (n : Int)] w (ReadFPost (readF secs n m at_ 1 []) n w) := by
  have hI0 : Hid (ReadI w base own od gd gl (dst secs full f) S P p rv recs vs n m at_ at_ (.slice none 0 0) 1 w) := ⟨[], m, 1, rfl, own8_nil _ _, Below.refl _ _, h, rfl, by simp; exact hm, hat, by simp⟩
  have HN1 := Lib.hid (And.intro hn hn2)
  have HOWN : Hid (∀ k, own k → k < w.heap.size) := fun k hk => (h.bnd k hk).2
  have hnI1 : (20 : Int) ≤ (n : Int) := by omega
  have hnI2 : (n : Int) ≤ 100000 := by omega
  obtain ⟨CZ, hCZ⟩ : ∃ zs : Array Value, zs = (bvs (List.replicate 64 0)).toArray := ⟨_, rfl⟩
  have hz64 := zero64a
  rw [← hCZ] at hz64
  have HCZ : Hid (CZ.size = 64) := by show _ = _; rw [hCZ]; rfl
  have hsl1 := slL1
  obtain ⟨RR, hRR⟩ : ∃ r, readF secs n m at_ 1 [] = r := ⟨_, rfl⟩
  have HRR := Lib.hid hRR
  clear h hn hn2 hm hat hCZ hRR
  go_enter Tryz.func145, Tryz.ntmps145
  go_wp2
  go_loopw [1, 8, 9] (fun q b kd wr => ∃ (a' nb cb : Nat) (Ab : Option Addr) (kI : Int), q = .int .i64 (a' : Int) ∧ b = .slice Ab nb cb ∧ kd = .int .u8 kI ∧ Hid (ReadI w base own od gd gl (dst secs full f) S P p rv recs vs n m at_ a' (.slice Ab nb cb) kI wr)) (fun _ b _ _ => n - lenV b)
  case atStart => exact ⟨at_, 0, 0, none, 1, rfl, rfl, rfl, hI0.out⟩
  clear hI0
  case round =>
    obtain ⟨a', nb, cb, Ab, kI, rfl, rfl, rfl, hO⟩ := hrel
    obtain ⟨acc, m1, k, hkI, hown, hbel, hx, hrf, hm1, ham, hal⟩ := hO.out.ex
    obtain ⟨A', c', he, hcc, hrd⟩ := own8_form hown
    have hnb : nb = acc.length := by cases he; rfl
    by_cases hlt : nb < n
    · have hlt' : (nb : Int) < (n : Int) := by omega
      subst hnb
      obtain ⟨m2, hm2⟩ : ∃ m2, m1 = m2 + 1 := ⟨m1 - 1, by omega⟩
      subst hm2
      have hat' : a' < secs.length := by have h_ : a' + (m2 + 1) ≤ secs.length := ham; omega
      obtain ⟨D, hD⟩ : ∃ D, D = secs.getD a' [] := ⟨_, rfl⟩
      have hDL : D.length = 64 := by rw [hD]; exact sec64 hx hat'
      obtain ⟨d0, hd0⟩ : ∃ d0, d0 = D.getD 0 0 := ⟨_, rfl⟩
      have HD0 : Hid (D = d0 :: D.drop 1) := by
        show _ = _
        cases D with
        | nil => simp at hDL
        | cons x l => rw [hd0]; rfl
      have HSTEP : Hid (readF secs n (m2 + 1) a' k acc = if d0 = k then readF secs n m2 (a' + 1) 2 (acc ++ D.drop 1) else none) := by
        show _ = _
        rw [readF, if_neg (by omega), ← hD, ← hd0]
      have HRV : Hid ((dst secs full f).read (a' : Int) = (D, 0)) := by show _ = _; rw [read_v hat', ← hD]
      have HDL := Lib.hid hDL
      obtain ⟨DA, hDA⟩ : ∃ DA : Array Value, DA = (bvs D).toArray := ⟨_, rfl⟩
      have HDZ : Hid (DA.size = 64) := by show _ = _; rw [hDA]; simp [bvs_length, hDL]
      have HD1 : Hid (DA.all (·.oneCell') = true) := by show _ = _; rw [hDA]; exact all_oneCell_toArray (bvs_one _)
      have HDA := Lib.hid hDA
      have HX := Lib.hid hx
      have CB : Hid (∀ w', Below wr.heap.size wr w' → w'.cell? ⟨gl, 0, none⟩ = some (.pointer (some ⟨gd, 0, none⟩)) ∧ w'.cell? ⟨gl, 1, none⟩ = some (.int .u64 0)) := fun w' hw' => ⟨(hx.below hw').c0, (hx.below hw').c1⟩
      have HKI := Lib.hid hkI
      have HOW := Lib.hid hown
      have HBL := Lib.hid hbel
      have HRF := Lib.hid hrf
      have HM := Lib.hid (And.intro hm1 ham)
      have HAL := Lib.hid hal
      have HLT := Lib.hid hlt
      have ha0 : (0 : Int) ≤ (a' : Int) := by omega
      have ha1 : (a' : Int) ≤ 65536 := by have h_ : secs.length ≤ 65536 := hx.dsk.ok.max; omega
      clear hO hkI hown hbel hx hrf hm1 ham hal he hcc hrd hlt hD hd0 hDL hDA hat'
      go_wp2
      refine AnyC.startB (fun w' => Below wr.heap.size wr w') (by kernel_rfl) rfl ?_
      intro w1 hb1 hs1
      have HB1 := Lib.hid hb1
      clear hb1 hs1
      apply AnyC.take (i := 0) rfl (by kernel_rfl) rfl
      · intro w' hC K hK
        go_wp2
        exact hK
      · rfl
      apply AnyC.take (i := 1) rfl (by kernel_rfl) rfl
      · intro w' hC K hK
        go_wp2
        exact hK
      · rfl
      apply AnyC.take (i := 2) rfl (by kernel_rfl) rfl
      · intro w' hC K hK
        go_wp2
        exact hK
      · rfl
      apply AnyC.take (i := 3) rfl (by kernel_rfl) rfl
      · intro w' hC K hK
        have cc := (CB.out w' hC).1
        go_wp2
        exact hK
      · rfl
      apply AnyC.take (i := 4) rfl (by kernel_rfl) rfl
      · intro w' hC K hK
        go_wp2
        exact hK
      · rfl
      apply AnyC.take (i := 5) rfl (by kernel_rfl) rfl
      · intro w' hC K hK
        go_wp2
        exact hK
      · rfl
      apply AnyC.take (i := 6) rfl (by kernel_rfl) rfl
      · intro w' hC K hK
        go_wp2
        exact hK
      · rfl
      apply AnyC.take (i := 7) rfl (by kernel_rfl) rfl
      · intro w' hC K hK
        go_wp2
        exact hK
      · rfl
      apply AnyC.take (i := 8) rfl (by kernel_rfl) rfl
      · intro w' hC K hK
        have cc := (CB.out w' hC).2
        go_wp2
        exact hK
      · rfl
      apply AnyC.take (i := 9) rfl (by kernel_rfl) rfl
      · intro w' hC K hK
        go_wp2_with (go_at_call 113; go_must (refine (base0_any (HX.out.below hC)).mono ?_; rintro e w2 ⟨rfl, rfl⟩))
        exact hK
      · rfl
      apply AnyC.take (i := 10) rfl (by kernel_rfl) rfl
      · intro w' hC K hK
        go_wp2
        exact hK
      · rfl
      apply AnyC.take (i := 11) rfl (by kernel_rfl) rfl
      · intro w' hC K hK
        go_wp2
        exact hK
      · rfl
      refine AnyC.two (i := 12) (j := 16) rfl rfl (by kernel_rfl) HB1.out ?_ ?_
      · go_wp2_with (go_at_call 112; go_must (refine (Read_any (HX.out.below HB1.out).dsk (a' : Int)).mono ?_; rintro e w2 ⟨rfl, hb_⟩; rw [HRV.out]; have HB2 := Lib.hid (HB1.out.trans (hb_.mono HB1.out.size)); have hbr := Lib.hid hb_; clear hb_))
        refine ⟨rfl, ?_⟩
        apply AnyC.take (i := 13) rfl (by kernel_rfl) rfl
        · intro w' hC K hK
          go_wp2
          exact hK
        · rfl
        apply AnyC.take (i := 14) rfl (by kernel_rfl) rfl
        · intro w' hC K hK
          go_wp2
          exact hK
        · rfl
        apply AnyC.take (i := 15) rfl (by kernel_rfl) rfl
        · intro w' hC K hK
          go_wp2
          exact hK
        · rfl
        apply AnyC.solo (i := 16) rfl (by kernel_rfl) HB2.out
        go_wp2
        refine ⟨rfl, ?_⟩
        have HB3 : Hid (Below wr.heap.size wr (w2.alloc (.cells CZ 32))) := by show Below _ _ _; exact HB2.out.alloc HB2.out.size _
        apply AnyC.solo (i := 17) rfl (by kernel_rfl) HB3.out
        rw [← HDA.out]
        refine wpList_store_row rfl _ _ _ rfl w2.heap.size DA rfl rfl 32 CZ (by exact heap_alloc_new w2 _) (by rw [HDZ.out]; kernel_rfl) (by rw [HCZ.out, HDZ.out]) HD1.out ?_
        go_wp2
        refine ⟨rfl, ?_⟩
        obtain ⟨w9, hw9⟩ : ∃ w9, (w2.alloc (.cells CZ 32)).setRow w2.heap.size DA = w9 := ⟨_, rfl⟩
        obtain ⟨g9, hg9⟩ : ∃ g9, w2.heap.size = g9 := ⟨_, rfl⟩
        have H9_ : Hid (w9.heap[g9]? = some (.cells DA 32 (0, 0)) ∧ Below wr.heap.size wr w9 ∧ wr.heap.size ≤ g9) := by
          show _ ∧ _
          rw [← hw9, ← hg9]
          exact ⟨heap_setRow (heap_alloc_new w2 _), HB3.out.trans ((Frm.setRow _ _ _).1.below (by simp; have := HB2.out.size; omega) (by simp; exact HB2.out.size)), HB2.out.size⟩
        rw [hw9, hg9]
        clear hw9 hg9
        apply AnyC.solo (i := 18) rfl (by kernel_rfl) H9_.out.2.1
        go_wp2
        refine ⟨rfl, ?_⟩
        refine AnyC.done H9_.out.2.1 (by kernel_rfl) ?_
        have H9 : Hid (w9.heap[g9]? = some (.cells DA 32 (0, 0)) ∧ Below wr.heap.size wr w9 ∧ wr.heap.size ≤ g9) := H9_
        clear H9_
        have c0 : w9.cell? ⟨g9, 0, none⟩ = some (.int .u8 (d0.toNat : Int)) := by
          rw [cell_of_row w9 g9 0 _ _ _ H9.out.1, HDA.out, HD0.out]
          rfl
        cases hk0 : decide (d0 = k) with
        | false =>
          have hne : ((d0.toNat : Int) != kI) = true := by
            have h_ : d0 ≠ k := by simpa using hk0
            rw [HKI.out]
            simp only [bne_iff_ne, ne_eq]
            intro e
            exact h_ (UInt8.toNat_inj.1 (by omega))
          have HF := Lib.hid hk0
          clear hk0
          go_wp2
          go_ret2
          refine ⟨HBL.out.trans (H9.out.2.1.mono HBL.out.size), .inl ⟨?_, rfl⟩⟩
          have h_ := HSTEP.out
          rw [if_neg (by have := HF.out; simpa using this)] at h_
          exact HRF.out.trans h_
        | true =>
          have hk1 : d0 = k := by simpa using hk0
          have hne : ((d0.toNat : Int) != kI) = false := by rw [HKI.out, hk1]; simp
          have HF := Lib.hid hk1
          clear hk0 hk1
          have RD : Hid (Reads w9 w9.heap.size 1 (some ⟨g9, 1, none⟩) 63 (bvs (D.drop 1))) := by
            show Reads _ _ _ _ _ _
            refine ⟨by rw [bvs_length, List.length_drop, HDL.out], fun _ => ⟨_, rfl, lt_of_heap H9.out.1, fun j u hu => ?_⟩⟩
            rw [add_none, cell_of_row w9 g9 (1 + j) _ _ _ H9.out.1, HDA.out, List.getElem?_toArray]
            simp only [bvs, List.getElem?_map, List.getElem?_drop] at hu ⊢
            exact hu
          have OW : Hid (Own8 w9 w.heap.size (.slice Ab acc.length cb) acc) := own8_keep HOW.out (grown_of_below H9.out.2.1 none) (by simp [Value.ownBlock]; cases Ab <;> simp)
          go_wp2_with (refine app8 rfl rfl rfl rfl OW.out (news := D.drop 1) RD.out (by have := HAL.out; have := HN1.out; omega) (Nat.le_trans HBL.out.size H9.out.2.1.size) ?_; intro v10 w10 hO10 hg10 _hv; obtain ⟨A10, c10, rfl, _, _⟩ := own8_form' hO10 (n := acc.length + 63) (by rw [List.length_append, List.length_drop, HDL.out]); have H10 := Lib.hid (And.intro hO10 hg10); clear hO10 hg10)
          go_roundw
          case rel =>
            refine ⟨a' + 1, acc.length + 63, c10, A10, 2, by go_num, rfl, rfl, acc ++ D.drop 1, m2, 2, rfl, H10.out.1, ?_, ?_, ?_, ?_, ?_, ?_⟩
            · exact (HBL.out.trans (H9.out.2.1.mono HBL.out.size)).grown H10.out.2 (Nat.le_trans HBL.out.size H9.out.2.1.size) (fun k hk => (own8_lt OW.out k hk).1)
            · refine (HX.out.below H9.out.2.1).keep H10.out.2.size (fun k_ hk_ => H10.out.2.block k_ ((HX.out.below H9.out.2.1).bnd k_ hk_).2 (fun e_ => ?_))
              have h1_ := (own8_lt OW.out k_ e_.symm).1
              have h2_ := HOWN.out k_ hk_
              omega
            · have h_ := HSTEP.out
              rw [if_pos HF.out] at h_
              exact HRF.out.trans h_
            · have := HM.out; have := HN1.out; rw [List.length_append, List.length_drop, HDL.out]; omega
            · have h_ : a' + (m2 + 1) ≤ secs.length := HM.out.2; show _ ≤ secs.length; omega
            · have := HLT.out; rw [List.length_append, List.length_drop, HDL.out]; omega
          case measure => simp only [lenV]; have := HLT.out; omega
      · go_wp2
        refine ⟨rfl, ?_⟩
        have HB2 : Hid (Below wr.heap.size wr (w1.alloc (.cells CZ 32))) := by show Below _ _ _; exact HB1.out.alloc HB1.out.size _
        apply AnyC.solo (i := 12) rfl (by kernel_rfl) HB2.out
        go_wp2_with (go_at_call 112; go_must (refine (Read_any (HX.out.below HB2.out).dsk (a' : Int)).mono ?_; rintro e w3 ⟨rfl, hb_⟩; rw [HRV.out]; have HB3 := Lib.hid (HB2.out.trans (hb_.mono HB2.out.size)); have hbr := Lib.hid hb_; clear hb_))
        refine ⟨rfl, ?_⟩
        apply AnyC.take (i := 13) rfl (by kernel_rfl) rfl
        · intro w' hC K hK
          go_wp2
          exact hK
        · rfl
        apply AnyC.take (i := 14) rfl (by kernel_rfl) rfl
        · intro w' hC K hK
          go_wp2
          exact hK
        · rfl
        apply AnyC.take (i := 15) rfl (by kernel_rfl) rfl
        · intro w' hC K hK
          go_wp2
          exact hK
        · rfl
        have HRW : Hid (w3.heap[w1.heap.size]? = some (.cells CZ 32 (0, 0))) := heap_below (heap_alloc_new w1 _) hbr.out
        apply AnyC.solo (i := 17) rfl (by kernel_rfl) HB3.out
        rw [← HDA.out]
        refine wpList_store_row rfl _ _ _ rfl w1.heap.size DA rfl rfl 32 CZ (by with_reducible exact HRW.out) (by rw [HDZ.out]; kernel_rfl) (by rw [HCZ.out, HDZ.out]) HD1.out ?_
        go_wp2
        refine ⟨rfl, ?_⟩
        obtain ⟨w9, hw9⟩ : ∃ w9, w3.setRow w1.heap.size DA = w9 := ⟨_, rfl⟩
        obtain ⟨g9, hg9⟩ : ∃ g9, w1.heap.size = g9 := ⟨_, rfl⟩
        have H9_ : Hid (w9.heap[g9]? = some (.cells DA 32 (0, 0)) ∧ Below wr.heap.size wr w9 ∧ wr.heap.size ≤ g9) := by
          show _ ∧ _
          rw [← hw9, ← hg9]
          exact ⟨heap_setRow HRW.out, HB3.out.trans ((Frm.setRow _ _ _).1.below HB3.out.size (by simp; exact HB1.out.size)), HB1.out.size⟩
        rw [hw9, hg9]
        clear hw9 hg9
        apply AnyC.solo (i := 18) rfl (by kernel_rfl) H9_.out.2.1
        go_wp2
        refine ⟨rfl, ?_⟩
        refine AnyC.done H9_.out.2.1 (by kernel_rfl) ?_
        have H9 : Hid (w9.heap[g9]? = some (.cells DA 32 (0, 0)) ∧ Below wr.heap.size wr w9 ∧ wr.heap.size ≤ g9) := H9_
        clear H9_
        have c0 : w9.cell? ⟨g9, 0, none⟩ = some (.int .u8 (d0.toNat : Int)) := by
          rw [cell_of_row w9 g9 0 _ _ _ H9.out.1, HDA.out, HD0.out]
          rfl
        cases hk0 : decide (d0 = k) with
        | false =>
          have hne : ((d0.toNat : Int) != kI) = true := by
            have h_ : d0 ≠ k := by simpa using hk0
            rw [HKI.out]
            simp only [bne_iff_ne, ne_eq]
            intro e
            exact h_ (UInt8.toNat_inj.1 (by omega))
          have HF := Lib.hid hk0
          clear hk0
          go_wp2
          go_ret2
          refine ⟨HBL.out.trans (H9.out.2.1.mono HBL.out.size), .inl ⟨?_, rfl⟩⟩
          have h_ := HSTEP.out
          rw [if_neg (by have := HF.out; simpa using this)] at h_
          exact HRF.out.trans h_
        | true =>
          have hk1 : d0 = k := by simpa using hk0
          have hne : ((d0.toNat : Int) != kI) = false := by rw [HKI.out, hk1]; simp
          have HF := Lib.hid hk1
          clear hk0 hk1
          have RD : Hid (Reads w9 w9.heap.size 1 (some ⟨g9, 1, none⟩) 63 (bvs (D.drop 1))) := by
            show Reads _ _ _ _ _ _
            refine ⟨by rw [bvs_length, List.length_drop, HDL.out], fun _ => ⟨_, rfl, lt_of_heap H9.out.1, fun j u hu => ?_⟩⟩
            rw [add_none, cell_of_row w9 g9 (1 + j) _ _ _ H9.out.1, HDA.out, List.getElem?_toArray]
            simp only [bvs, List.getElem?_map, List.getElem?_drop] at hu ⊢
            exact hu
          have OW : Hid (Own8 w9 w.heap.size (.slice Ab acc.length cb) acc) := own8_keep HOW.out (grown_of_below H9.out.2.1 none) (by simp [Value.ownBlock]; cases Ab <;> simp)
          go_wp2_with (refine app8 rfl rfl rfl rfl OW.out (news := D.drop 1) RD.out (by have := HAL.out; have := HN1.out; omega) (Nat.le_trans HBL.out.size H9.out.2.1.size) ?_; intro v10 w10 hO10 hg10 _hv; obtain ⟨A10, c10, rfl, _, _⟩ := own8_form' hO10 (n := acc.length + 63) (by rw [List.length_append, List.length_drop, HDL.out]); have H10 := Lib.hid (And.intro hO10 hg10); clear hO10 hg10)
          go_roundw
          case rel =>
            refine ⟨a' + 1, acc.length + 63, c10, A10, 2, by go_num, rfl, rfl, acc ++ D.drop 1, m2, 2, rfl, H10.out.1, ?_, ?_, ?_, ?_, ?_, ?_⟩
            · exact (HBL.out.trans (H9.out.2.1.mono HBL.out.size)).grown H10.out.2 (Nat.le_trans HBL.out.size H9.out.2.1.size) (fun k hk => (own8_lt OW.out k hk).1)
            · refine (HX.out.below H9.out.2.1).keep H10.out.2.size (fun k_ hk_ => H10.out.2.block k_ ((HX.out.below H9.out.2.1).bnd k_ hk_).2 (fun e_ => ?_))
              have h1_ := (own8_lt OW.out k_ e_.symm).1
              have h2_ := HOWN.out k_ hk_
              omega
            · have h_ := HSTEP.out
              rw [if_pos HF.out] at h_
              exact HRF.out.trans h_
            · have := HM.out; have := HN1.out; rw [List.length_append, List.length_drop, HDL.out]; omega
            · have h_ : a' + (m2 + 1) ≤ secs.length := HM.out.2; show _ ≤ secs.length; omega
            · have := HLT.out; rw [List.length_append, List.length_drop, HDL.out]; omega
          case measure => simp only [lenV]; have := HLT.out; omega
    · have hd : decide (nb < n) = false := by simp; omega
      have FIN : Hid (ReadFPost RR n w (.returned (.tuple #[.slice Ab n cb, .int .i64 0])) wr) := by
        show ReadFPost _ _ _ _ _
        have hle : n ≤ acc.length := by omega
        rw [← HRR.out]
        refine ⟨hbel, .inr ⟨acc.take n, Ab, cb, ?_, by rw [List.length_take]; omega, rfl, ?_, ?_, ?_⟩⟩
        · exact hrf.trans (readF_done hle _ _ _)
        · cases he; omega
        · cases he
          have h_ := hrd.take hle
          rw [Nat.mul_one] at h_
          simpa [bvs, List.map_take] using h_
        · obtain ⟨_, ⟨h1, h2⟩ | ⟨g, cap, cur, h1, h2, _⟩⟩ := hown
          · have := HN1.out; omega
          · cases h1; exact ⟨g, rfl, h2⟩
      have hcb : (n : Int) ≤ (cb : Int) := by cases he; omega
      clear hO hkI hown hbel hx hrf hm1 ham hal he hcc hrd hlt hnb
      go_wp2
      go_ret2
      rw [HRR.out]
      exact FIN.out
end Go.Proofs.YtbcpmnnlhdgbhaaGreatDoor

namespace Go.Proofs.YtbcpmnnlhdgbhaaGreatDoor
open Go.RowKit
theorem readF_frame {secs : List (List UInt8)} {n : Nat} : ∀ (m N : Nat) (kind : UInt8) (b acc : List UInt8) (at_ : Nat), b.length ≤ N → (∀ (j : Nat) (x : List UInt8), (chunks N kind b)[j]? = some x → secs.getD (at_ + j) [] = x) → n ≤ acc.length + b.length → (n - acc.length + 62) / 63 ≤ m →
    readF secs n m at_ kind acc = some ((acc ++ b).take n)
  | 0, N, kind, b, acc, at_, _, _, h1, h2 => by
    have : n ≤ acc.length := by omega
    rw [readF, List.take_append_of_le_length this]
  | m + 1, N, kind, b, acc, at_, hN, hs, h1, h2 => by
    by_cases hd : n ≤ acc.length
    · rw [readF_done hd, List.take_append_of_le_length hd]
    · have hb : b ≠ [] := fun e => by rw [e] at h1; simp at h1; omega
      have hc := chunks_cons (k := kind) hb hN
      have h0 := hs 0 (kind :: (b.take 63 ++ List.replicate (63 - b.length) 0)) (by rw [hc]; rfl)
      rw [Nat.add_zero] at h0
      rw [readF, if_neg hd, h0, if_pos (by rfl), List.drop_succ_cons, List.drop_zero]
      by_cases h63 : 63 ≤ b.length
      · rw [show 63 - b.length = 0 from by omega, List.replicate_zero, List.append_nil]
        have h3 := readF_frame (secs := secs) (n := n) m (N - 1) 2 (b.drop 63) (acc ++ b.take 63) (at_ + 1) (by rw [List.length_drop]; omega)
          (fun j x hx => by
            have h4 := hs (j + 1) x (by rw [hc, List.getElem?_cons_succ]; exact hx)
            rw [← h4]; congr 1; omega)
          (by simp only [List.length_append, List.length_take, List.length_drop]; omega) (by simp only [List.length_append, List.length_take]; omega)
        rw [h3, List.append_assoc, List.take_append_drop]
      · rw [List.take_of_length_le (by omega), readF_done (by simp; omega), ← List.append_assoc, List.take_append_of_le_length (by rw [List.length_append]; exact h1)]
theorem readF_zero {secs : List (List UInt8)} {n m at_ : Nat} (hn : 0 < n) (hz : (secs.getD at_ []).getD 0 0 = 0) : readF secs n (m + 1) at_ 1 [] = none := by
  rw [readF, if_neg (by simp; omega), hz, if_neg (by decide)]
/-- What is read of a frame's bytes. -/
def frameH (K : List Int) (number : Nat) : Option (List UInt8) → Option (List UInt8)
  | none => none
  | some b => if (b.drop 4).take 16 = tagF K number (b.drop 20) then some (b.drop 20) else none
def frameG (K : List Int) (secs : List (List UInt8)) (at_ number : Nat) : Option (List UInt8) → Option (List UInt8)
  | none => none
  | some h => if 65536 < num4 h ∨ secs.length / 2 < at_ + secsN (num4 h) then none else frameH K number (readF secs (20 + num4 h) (secsN (num4 h)) at_ 1 [])
/-- The frame at a sector. -/
def frameF (K : List Int) (secs : List (List UInt8)) (at_ number : Nat) : Option (List UInt8) :=
  if secs.length / 2 ≤ at_ then none else frameG K secs at_ number (readF secs 20 1 at_ 1 [])
/-- Where a frame lies. -/
theorem frameF_yes {K : List Int} {secs : List (List UInt8)} {at_ number : Nat} {rec : List UInt8} (hl : rec.length ≤ 65536) (hat : at_ + secsN rec.length ≤ secs.length / 2)
    (hs : ∀ (j : Nat) (x : List UInt8), (frameS K number rec)[j]? = some x → secs.getD (at_ + j) [] = x) : frameF K secs at_ number = some rec := by
  have hp : 1 ≤ secsN rec.length := by unfold secsN; omega
  have h4 : (be4 rec.length).length = 4 := rfl
  have h1 := readF_frame (n := 20) 1 (rec.length + 20) 1 (frameB K number rec) [] at_ (by rw [frameB_len]; omega) hs (by rw [frameB_len]; simp) (by simp)
  rw [List.nil_append] at h1
  have hnum : num4 ((frameB K number rec).take 20) = rec.length := by
    have e : (frameB K number rec).take 20 = be4 rec.length ++ tagF K number rec := by
      unfold frameB
      rw [List.take_append_of_le_length (by rw [List.length_append, tagF_len, h4]; omega)]
      exact List.take_of_length_le (by rw [List.length_append, tagF_len, h4]; omega)
    rw [e, num4_be4 _ _ (by omega)]
  have h2 := readF_frame (n := 20 + rec.length) (secsN rec.length) (rec.length + 20) 1 (frameB K number rec) [] at_ (by rw [frameB_len]; omega) hs (by rw [frameB_len]; simp; omega) (by unfold secsN; simp; omega)
  rw [List.nil_append, List.take_of_length_le (by rw [frameB_len]; omega)] at h2
  unfold frameF
  rw [if_neg (by omega), h1]
  unfold frameG
  simp only
  rw [hnum, if_neg (by omega), h2]
  unfold frameH
  simp only
  have e1 : (frameB K number rec).drop 20 = rec := by
    unfold frameB
    rw [List.drop_append_of_le_length (by rw [List.length_append, tagF_len, h4]; omega), List.drop_of_length_le (by rw [List.length_append, tagF_len, h4]; omega), List.nil_append]
  have e2 : ((frameB K number rec).drop 4).take 16 = tagF K number rec := by
    unfold frameB
    rw [List.append_assoc, List.drop_append_of_le_length (by rw [h4]; omega), List.drop_of_length_le (by rw [h4]; omega), List.nil_append, List.take_append_of_le_length (by rw [tagF_len]; omega)]
    exact List.take_of_length_le (by rw [tagF_len]; omega)
  rw [e1, e2, if_pos rfl]
theorem frameF_no {K : List Int} {secs : List (List UInt8)} {at_ number : Nat} (h : secs.length / 2 ≤ at_ ∨ (secs.getD at_ []).getD 0 0 = 0) : frameF K secs at_ number = none := by
  unfold frameF
  by_cases h1 : secs.length / 2 ≤ at_
  · rw [if_pos h1]
  · rw [if_neg h1, readF_zero (by omega) (h.resolve_left h1)]
    rfl
/-- What lies on the disk: the records' frames, and nothing behind them. -/
structure Lay (K : List Int) (secs : List (List UInt8)) (at_ : Nat) (recs : List (List UInt8)) : Prop where
  lay : secs = zero64 :: framesS K 0 recs ++ List.replicate (secs.length - at_) zero64
  place : at_ = 1 + (framesS K 0 recs).length
  fit : at_ ≤ secs.length / 2
  pos : 2 ≤ secs.length
theorem framesS_take (K : List Int) : ∀ (l : List (List UInt8)) (i k : Nat), (framesS K i (l.take k)) ++ framesS K (i + k) (l.drop k) = framesS K i l ∨ l.length < k
  | l, i, 0 => .inl (by simp [framesS])
  | [], i, k + 1 => .inr (by simp)
  | r :: l, i, k + 1 => by
    rcases framesS_take K l (i + 1) k with h | h
    · left
      rw [List.take_succ_cons, List.drop_succ_cons, framesS, framesS, List.append_assoc, show i + (k + 1) = i + 1 + k from by omega, h]
    · right
      simp; omega
theorem Lay.frame {K : List Int} {secs : List (List UInt8)} {at_ : Nat} {recs : List (List UInt8)} (h : Lay K secs at_ recs) (hsz : ∀ r ∈ recs, r.length ≤ 65536) {i : Nat} {r : List UInt8} (hi : recs[i]? = some r) :
    frameF K secs (1 + (framesS K 0 (recs.take i)).length) i = some r ∧ (framesS K 0 (recs.take (i + 1))).length = (framesS K 0 (recs.take i)).length + secsN r.length := by
  have hlt : i < recs.length := (List.getElem?_eq_some_iff.1 hi).1
  have e0 : framesS K 0 (recs.take (i + 1)) = framesS K 0 (recs.take i) ++ frameS K i r := by
    rw [List.take_add_one, hi]
    have := framesS_snoc K (recs.take i) 0 r
    rw [show (recs.take i).length = i from by rw [List.length_take]; omega, Nat.zero_add] at this
    exact this
  have hlen : (framesS K 0 (recs.take (i + 1))).length = (framesS K 0 (recs.take i)).length + secsN r.length := by rw [e0, List.length_append, frameS_len]
  have hall : framesS K 0 (recs.take (i + 1)) ++ framesS K (0 + (i + 1)) (recs.drop (i + 1)) = framesS K 0 recs := (framesS_take K recs 0 (i + 1)).resolve_right (by omega)
  have hle : (framesS K 0 (recs.take (i + 1))).length ≤ (framesS K 0 recs).length := by rw [← hall, List.length_append]; omega
  refine ⟨frameF_yes (hsz r (List.mem_of_getElem? hi)) ?_ ?_, hlen⟩
  · have h1 := h.place
    have h2 := h.fit
    omega
  · intro j x hx
    have hj : j < (frameS K i r).length := (List.getElem?_eq_some_iff.1 hx).1
    rw [h.lay, List.getD_eq_getElem?_getD]
    have e1 : (zero64 :: framesS K 0 recs ++ List.replicate (secs.length - at_) zero64)[1 + (framesS K 0 (recs.take i)).length + j]? = some x := by
      rw [← hall, e0, show 1 + (framesS K 0 (recs.take i)).length + j = (framesS K 0 (recs.take i)).length + j + 1 from by omega]
      rw [List.cons_append, List.getElem?_cons_succ, List.append_assoc, List.append_assoc, List.getElem?_append_right (by omega), Nat.add_sub_cancel_left, List.getElem?_append_left hj]
      exact hx
    rw [e1]
    rfl
theorem Lay.last {K : List Int} {secs : List (List UInt8)} {at_ : Nat} {recs : List (List UInt8)} (h : Lay K secs at_ recs) : frameF K secs at_ recs.length = none := by
  apply frameF_no
  by_cases h1 : secs.length / 2 ≤ at_
  · exact .inl h1
  · right
    have hl : (zero64 :: framesS K 0 recs).length = at_ := by rw [List.length_cons, h.place]; omega
    have e : secs.getD at_ [] = zero64 := by
      rw [h.lay, List.getD_eq_getElem?_getD, List.getElem?_append_right (by omega), hl, Nat.sub_self]
      have h2 := h.fit
      have h3 : 0 < secs.length - at_ := by omega
      rw [List.getElem?_replicate, if_pos h3]
      rfl
    rw [e]
    rfl
theorem Lay.fresh (K : List Int) (n : Nat) (hn : 2 ≤ n) : Lay K (List.replicate n zero64) 1 [] := by
  refine ⟨?_, rfl, by simp; omega, by simp; exact hn⟩
  rw [List.length_replicate, framesS]
  obtain ⟨m, rfl⟩ : ∃ m, n = m + 1 := ⟨n - 1, by omega⟩
  rfl
theorem Lay.push {K : List Int} {secs : List (List UInt8)} {at_ : Nat} {recs : List (List UInt8)} (h : Lay K secs at_ recs) (r : List UInt8) (hr : at_ + secsN r.length ≤ secs.length / 2) :
    Lay K (syncAll secs (placeL at_ (frameS K recs.length r))) (at_ + secsN r.length) (recs ++ [r]) := by
  have hfl := frameS_len K recs.length r
  have hl : (zero64 :: framesS K 0 recs).length = at_ := by rw [List.length_cons, h.place]; omega
  have e := sync_place (frameS K recs.length r) at_ secs (by rw [hfl]; omega)
  have hsl : (syncAll secs (placeL at_ (frameS K recs.length r))).length = secs.length := by rw [e]; simp only [List.length_append, List.length_take, List.length_drop, hfl]; omega
  refine ⟨?_, ?_, by rw [hsl]; exact hr, by rw [hsl]; exact h.pos⟩
  · rw [hsl]
    rw [e, framesS_snoc, Nat.zero_add, hfl]
    have t1 : secs.take at_ = zero64 :: framesS K 0 recs := by rw [h.lay, ← hl]; exact List.take_left
    have t2 : secs.drop (at_ + secsN r.length) = List.replicate (secs.length - (at_ + secsN r.length)) zero64 := by
      have h3 : secs.drop at_ = List.replicate (secs.length - at_) zero64 := by
        have h4 := h.lay
        generalize hq : List.replicate (secs.length - at_) zero64 = q at h4
        rw [h4, ← hl]; exact List.drop_left
      rw [← List.drop_drop, h3, List.drop_replicate, Nat.sub_sub]
    rw [t1, t2]
    simp
  · rw [framesS_snoc, List.length_append, Nat.zero_add, hfl, h.place]; omega
end Go.Proofs.YtbcpmnnlhdgbhaaGreatDoor
