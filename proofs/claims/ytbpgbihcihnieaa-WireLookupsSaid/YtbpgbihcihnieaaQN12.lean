/- The texts N12 N13 of this work, merged by wip/merge.py. No conditions. -/
import Derived.Test.YtbpgbihcihnieaaQN11
namespace Go.Proofs.Ytbpgbihcihnieaa
open Go.RowKit
theorem rDecodeStep_any (A : Option Addr) (c : Nat) (b : List UInt8) (w : World) (hr : Reads w w.heap.size 1 A b.length (bvs b)) (hc : b.length ≤ c) (hm : b.length ≤ 140737488355328) : Calls Try.prog 41 #[.slice A b.length c] w (SDPost b w) := by
  cases h1 : openV b stepW 4 with
  | none => exact rDS_a A c b w hr hc hm (by unfold stepD; rw [h1]; rfl) h1
  | some ls =>
    obtain ⟨x, n, a, l, rfl⟩ := four_of (openV_length h1)
    cases hx : rootD x with
    | none => exact rDS_e0 A c b w hr hc hm x n a l h1 (by unfold stepD; rw [h1]; simp [stepO, hx]) hx
    | some r =>
      cases hn : nodesOK n with
      | false => exact rDS_e1 A c b w hr hc hm x n a l h1 (by unfold stepD; rw [h1]; simp [stepO, hx, hn]) r hx hn
      | true =>
        by_cases ha : a.length % 64 = 0
        · by_cases hl : l.length % 96 = 0
          · exact rDS_ok A c b w hr hc hm x n a l h1 r hx hn ha hl
          · exact rDS_e3 A c b w hr hc hm x n a l h1 (by unfold stepD; rw [h1]; simp only [stepO, hx]; rw [if_neg (by simp [hl])]) r hx hn ha hl
        · exact rDS_e2 A c b w hr hc hm x n a l h1 (by unfold stepD; rw [h1]; simp only [stepO, hx]; rw [if_neg (by simp [ha])]) r hx hn ha
end Go.Proofs.Ytbpgbihcihnieaa

namespace Go.Proofs.Ytbpgbihcihnieaa
open Go.RowKit
def RootFPost (x : List UInt8) (ls : List (List UInt8)) (bad : Bool) (p lo : Nat) (w : World) (e : Ending) (w' : World) : Prop := e = .returned (.agg (rootR x).cs) ∧ Fld w' p lo ls (bad || !(rootD x).isSome) ∧ Frm [p] w w'
theorem rootE_ne (x : List UInt8) : (rootE x != 0) = !(rootD x).isSome := by
  cases h : rootD x with
  | none => rw [(root_no h).2]; rfl
  | some r => rw [(root_yes h).2]; rfl
theorem rootR_ok (x : List UInt8) : (rootR x).ok := by
  cases h : rootD x with
  | none => rw [(root_no h).1]; exact rootZ_ok
  | some r => rw [(root_yes h).1]; exact (root_enc_dec h).2
set_option maxRecDepth 100000 in
set_option maxHeartbeats 1000000 in
theorem root_bad (x : List UInt8) (ls : List (List UInt8)) (p lo : Nat) (w : World) (h : Fld w p lo (x :: ls) true) (hm : x.length ≤ 140737488355328) : Calls Try.prog 61 #[.pointer (some ⟨p, 0, none⟩)] w (RootFPost x ls true p lo w) := by
  obtain ⟨Y, hY⟩ : ∃ Y : Array Value, Y = rootZ.cs := ⟨_, rfl⟩
  have hy := hz47
  rw [← hY] at hy
  have HYz : Hid (Y.size = 163) := by show _ = _; rw [hY]; decide
  obtain ⟨X, hX⟩ : ∃ X : Array Value, X = (rootR x).cs := ⟨_, rfl⟩
  have HX := Lib.hid hX
  have XZ : Hid (X.size = 163) := by show _ = _; rw [hX]; exact root_size (rootR_ok x)
  have F0 : Hid (Fld (w.alloc (.cells Y 47)) p lo (x :: ls) true) := h.keep (Frm.of_below (ps := []) ((Below.refl _ _).alloc (Nat.le_refl _) _)) (by simp)
  have PL := Lib.hid h.lt
  have A0 := Lib.hid (heap_alloc_new w (.cells Y 47))
  have Hm := Lib.hid hm
  obtain ⟨z, hz0⟩ : ∃ z : Int, rootE x = z := ⟨_, rfl⟩
  have HE := Lib.hid hz0
  clear h hm hY hX hz0
  go_enter Try.func61, Try.ntmps61
  go_wp2_with (first
    | (go_at_call 51; go_must (refine (next_any x ls true p lo _ F0.out).mono ?_; rintro e w1 ⟨Ax, cx, rfl, hcx, hx, hf, hfr⟩; have RX := Lib.hid (And.intro (hx.reads (Nat.le_of_lt hf.lt)) hcx); have F1 := Lib.hid hf; have M1 : Hid (Frm [p] w w1) := (Frm.of_below ((Below.refl _ w).alloc (Nat.le_refl _) _)).trans hfr; have A1 := Lib.hid (hfr.heap A0.out (by simp; have h_ := PL.out; omega)); clear hcx hx hf hfr))
    | (go_at_call 27; go_must (refine (DecodeRoot_any Ax cx x w1 RX.out.1 RX.out.2 Hm.out).mono ?_; rintro e w2 ⟨rfl, hb⟩; rw [HE.out, ← HX.out]; have RN := Lib.hid (row_new w2 Y X 47); have AN := Lib.hid (heap_alloc_new w2 (.cells Y 47)); have B2 : Hid (Below w1.heap.size w1 ((w2.alloc (.cells Y 47)).setRow w2.heap.size X)) := hb.trans (RN.out.1.mono hb.size); have F2 := Lib.hid (F1.out.keep (Frm.of_below (ps := []) B2.out) (by simp)); have P2 := Lib.hid RN.out.2.1; have A2 := Lib.hid (heap_below A1.out B2.out); have M2 := Lib.hid (M1.out.trans (Frm.of_below (ps := [p]) B2.out)); have S2 : Hid (p < w2.heap.size ∧ w.heap.size < w2.heap.size) := ⟨Nat.lt_of_lt_of_le F1.out.lt hb.size, Nat.lt_of_lt_of_le (lt_of_heap A1.out) hb.size⟩; obtain ⟨e2, hfz2⟩ := F2.out.bad_at; have G := Lib.hid (Fld.setBad true F2.out); have P3 := Lib.hid (G.out.2.heap P2.out (by simp; have h_ := S2.out.1; omega)); have A3 := Lib.hid (G.out.2.heap A2.out (by simp; have h_ := PL.out; omega)); clear hb RN))
    | (refine wpList_store_row rfl _ _ _ rfl w2.heap.size X rfl rfl 47 Y (by with_reducible exact AN.out) (by rw [XZ.out]; kernel_rfl) (by rw [XZ.out, HYz.out]) (by rw [HX.out]; exact root_one) ?_)
    | (refine wpList_load_arr rfl _ _ rfl w2.heap.size 0 rfl X _ (by with_reducible exact range_row P3.out) Try.underlying47 rfl (by rw [XZ.out]; kernel_rfl) ?_)
    | (refine wpList_store_row rfl _ _ _ rfl w.heap.size X rfl rfl 47 Y (by with_reducible exact A3.out) (by rw [XZ.out]; kernel_rfl) (by rw [XZ.out, HYz.out]) (by rw [HX.out]; exact root_one) ?_))
  have hld := ret47r (heap_setRow (cs := X) A3.out) XZ.out
  refine bodyPost_ret (v := .agg X) (by simp [results, Try.results61, asAddr, Act.put, hld]) rfl ⟨by rw [HX.out], ?_, ?_⟩
  · rw [show (true || !(rootD x).isSome) = true from by rw [Bool.true_or]]
    exact G.out.1.keep (Frm.setRow _ _ _).1 (by simp; have h_ := PL.out; omega)
  · have h1 := M2.out.trans (G.out.2.trans (Frm.refl [p] _))
    refine ⟨?_, ?_, ?_, ?_, ?_⟩
    · exact (Frm.setRow _ _ _).1.os.trans h1.os
    · exact (Frm.setRow _ _ _).1.tape.trans h1.tape
    · exact (Frm.setRow _ _ _).1.output.trans h1.output
    · rw [(Frm.setRow _ _ _).2]; exact h1.size
    · intro k hk hn
      rw [(Frm.setRow _ _ _).1.block k (Nat.lt_of_lt_of_le hk h1.size) (by simp; omega)]
      exact h1.block k hk hn
set_option maxRecDepth 100000 in
set_option maxHeartbeats 1000000 in
theorem root_e0 (x : List UInt8) (ls : List (List UInt8)) (p lo : Nat) (w : World) (h : Fld w p lo (x :: ls) false) (hm : x.length ≤ 140737488355328) (hz : (rootE x != 0) = false) : Calls Try.prog 61 #[.pointer (some ⟨p, 0, none⟩)] w (RootFPost x ls false p lo w) := by
  obtain ⟨Y, hY⟩ : ∃ Y : Array Value, Y = rootZ.cs := ⟨_, rfl⟩
  have hy := hz47
  rw [← hY] at hy
  have HYz : Hid (Y.size = 163) := by show _ = _; rw [hY]; decide
  obtain ⟨X, hX⟩ : ∃ X : Array Value, X = (rootR x).cs := ⟨_, rfl⟩
  have HX := Lib.hid hX
  have XZ : Hid (X.size = 163) := by show _ = _; rw [hX]; exact root_size (rootR_ok x)
  have F0 : Hid (Fld (w.alloc (.cells Y 47)) p lo (x :: ls) false) := h.keep (Frm.of_below (ps := []) ((Below.refl _ _).alloc (Nat.le_refl _) _)) (by simp)
  have PL := Lib.hid h.lt
  have A0 := Lib.hid (heap_alloc_new w (.cells Y 47))
  have Hm := Lib.hid hm
  obtain ⟨z, hz0⟩ : ∃ z : Int, rootE x = z := ⟨_, rfl⟩
  have HE := Lib.hid hz0
  have hz1 : (z != 0) = false := by rw [← hz0]; exact hz
  have HZ := Lib.hid hz
  clear hz
  clear h hm hY hX hz0
  go_enter Try.func61, Try.ntmps61
  go_wp2_with (first
    | (go_at_call 51; go_must (refine (next_any x ls false p lo _ F0.out).mono ?_; rintro e w1 ⟨Ax, cx, rfl, hcx, hx, hf, hfr⟩; have RX := Lib.hid (And.intro (hx.reads (Nat.le_of_lt hf.lt)) hcx); have F1 := Lib.hid hf; have M1 : Hid (Frm [p] w w1) := (Frm.of_below ((Below.refl _ w).alloc (Nat.le_refl _) _)).trans hfr; have A1 := Lib.hid (hfr.heap A0.out (by simp; have h_ := PL.out; omega)); clear hcx hx hf hfr))
    | (go_at_call 27; go_must (refine (DecodeRoot_any Ax cx x w1 RX.out.1 RX.out.2 Hm.out).mono ?_; rintro e w2 ⟨rfl, hb⟩; rw [HE.out, ← HX.out]; have RN := Lib.hid (row_new w2 Y X 47); have AN := Lib.hid (heap_alloc_new w2 (.cells Y 47)); have B2 : Hid (Below w1.heap.size w1 ((w2.alloc (.cells Y 47)).setRow w2.heap.size X)) := hb.trans (RN.out.1.mono hb.size); have F2 := Lib.hid (F1.out.keep (Frm.of_below (ps := []) B2.out) (by simp)); have P2 := Lib.hid RN.out.2.1; have A2 := Lib.hid (heap_below A1.out B2.out); have M2 := Lib.hid (M1.out.trans (Frm.of_below (ps := [p]) B2.out)); have S2 : Hid (p < w2.heap.size ∧ w.heap.size < w2.heap.size) := ⟨Nat.lt_of_lt_of_le F1.out.lt hb.size, Nat.lt_of_lt_of_le (lt_of_heap A1.out) hb.size⟩; obtain ⟨e2, hfz2⟩ := F2.out.bad_at; have G := Lib.hid (Fld.setBad false F2.out); have P3 := Lib.hid (G.out.2.heap P2.out (by simp; have h_ := S2.out.1; omega)); have A3 := Lib.hid (G.out.2.heap A2.out (by simp; have h_ := PL.out; omega)); clear hb RN))
    | (refine wpList_store_row rfl _ _ _ rfl w2.heap.size X rfl rfl 47 Y (by with_reducible exact AN.out) (by rw [XZ.out]; kernel_rfl) (by rw [XZ.out, HYz.out]) (by rw [HX.out]; exact root_one) ?_)
    | (refine wpList_load_arr rfl _ _ rfl w2.heap.size 0 rfl X _ (by with_reducible exact range_row P3.out) Try.underlying47 rfl (by rw [XZ.out]; kernel_rfl) ?_)
    | (refine wpList_store_row rfl _ _ _ rfl w.heap.size X rfl rfl 47 Y (by with_reducible exact A3.out) (by rw [XZ.out]; kernel_rfl) (by rw [XZ.out, HYz.out]) (by rw [HX.out]; exact root_one) ?_))
  have hld := ret47r (heap_setRow (cs := X) A3.out) XZ.out
  refine bodyPost_ret (v := .agg X) (by simp [results, Try.results61, asAddr, Act.put, hld]) rfl ⟨by rw [HX.out], ?_, ?_⟩
  · rw [show (false || !(rootD x).isSome) = false from by rw [Bool.false_or, ← rootE_ne, HZ.out]]
    exact G.out.1.keep (Frm.setRow _ _ _).1 (by simp; have h_ := PL.out; omega)
  · have h1 := M2.out.trans (G.out.2.trans (Frm.refl [p] _))
    refine ⟨?_, ?_, ?_, ?_, ?_⟩
    · exact (Frm.setRow _ _ _).1.os.trans h1.os
    · exact (Frm.setRow _ _ _).1.tape.trans h1.tape
    · exact (Frm.setRow _ _ _).1.output.trans h1.output
    · rw [(Frm.setRow _ _ _).2]; exact h1.size
    · intro k hk hn
      rw [(Frm.setRow _ _ _).1.block k (Nat.lt_of_lt_of_le hk h1.size) (by simp; omega)]
      exact h1.block k hk hn
set_option maxRecDepth 100000 in
set_option maxHeartbeats 1000000 in
theorem root_e1 (x : List UInt8) (ls : List (List UInt8)) (p lo : Nat) (w : World) (h : Fld w p lo (x :: ls) false) (hm : x.length ≤ 140737488355328) (hz : (rootE x != 0) = true) : Calls Try.prog 61 #[.pointer (some ⟨p, 0, none⟩)] w (RootFPost x ls false p lo w) := by
  obtain ⟨Y, hY⟩ : ∃ Y : Array Value, Y = rootZ.cs := ⟨_, rfl⟩
  have hy := hz47
  rw [← hY] at hy
  have HYz : Hid (Y.size = 163) := by show _ = _; rw [hY]; decide
  obtain ⟨X, hX⟩ : ∃ X : Array Value, X = (rootR x).cs := ⟨_, rfl⟩
  have HX := Lib.hid hX
  have XZ : Hid (X.size = 163) := by show _ = _; rw [hX]; exact root_size (rootR_ok x)
  have F0 : Hid (Fld (w.alloc (.cells Y 47)) p lo (x :: ls) false) := h.keep (Frm.of_below (ps := []) ((Below.refl _ _).alloc (Nat.le_refl _) _)) (by simp)
  have PL := Lib.hid h.lt
  have A0 := Lib.hid (heap_alloc_new w (.cells Y 47))
  have Hm := Lib.hid hm
  obtain ⟨z, hz0⟩ : ∃ z : Int, rootE x = z := ⟨_, rfl⟩
  have HE := Lib.hid hz0
  have hz1 : (z != 0) = true := by rw [← hz0]; exact hz
  have HZ := Lib.hid hz
  clear hz
  clear h hm hY hX hz0
  go_enter Try.func61, Try.ntmps61
  go_wp2_with (first
    | (go_at_call 51; go_must (refine (next_any x ls false p lo _ F0.out).mono ?_; rintro e w1 ⟨Ax, cx, rfl, hcx, hx, hf, hfr⟩; have RX := Lib.hid (And.intro (hx.reads (Nat.le_of_lt hf.lt)) hcx); have F1 := Lib.hid hf; have M1 : Hid (Frm [p] w w1) := (Frm.of_below ((Below.refl _ w).alloc (Nat.le_refl _) _)).trans hfr; have A1 := Lib.hid (hfr.heap A0.out (by simp; have h_ := PL.out; omega)); clear hcx hx hf hfr))
    | (go_at_call 27; go_must (refine (DecodeRoot_any Ax cx x w1 RX.out.1 RX.out.2 Hm.out).mono ?_; rintro e w2 ⟨rfl, hb⟩; rw [HE.out, ← HX.out]; have RN := Lib.hid (row_new w2 Y X 47); have AN := Lib.hid (heap_alloc_new w2 (.cells Y 47)); have B2 : Hid (Below w1.heap.size w1 ((w2.alloc (.cells Y 47)).setRow w2.heap.size X)) := hb.trans (RN.out.1.mono hb.size); have F2 := Lib.hid (F1.out.keep (Frm.of_below (ps := []) B2.out) (by simp)); have P2 := Lib.hid RN.out.2.1; have A2 := Lib.hid (heap_below A1.out B2.out); have M2 := Lib.hid (M1.out.trans (Frm.of_below (ps := [p]) B2.out)); have S2 : Hid (p < w2.heap.size ∧ w.heap.size < w2.heap.size) := ⟨Nat.lt_of_lt_of_le F1.out.lt hb.size, Nat.lt_of_lt_of_le (lt_of_heap A1.out) hb.size⟩; obtain ⟨e2, hfz2⟩ := F2.out.bad_at; have G := Lib.hid (Fld.setBad true F2.out); have P3 := Lib.hid (G.out.2.heap P2.out (by simp; have h_ := S2.out.1; omega)); have A3 := Lib.hid (G.out.2.heap A2.out (by simp; have h_ := PL.out; omega)); clear hb RN))
    | (refine wpList_store_row rfl _ _ _ rfl w2.heap.size X rfl rfl 47 Y (by with_reducible exact AN.out) (by rw [XZ.out]; kernel_rfl) (by rw [XZ.out, HYz.out]) (by rw [HX.out]; exact root_one) ?_)
    | (refine wpList_load_arr rfl _ _ rfl w2.heap.size 0 rfl X _ (by with_reducible exact range_row P3.out) Try.underlying47 rfl (by rw [XZ.out]; kernel_rfl) ?_)
    | (refine wpList_store_row rfl _ _ _ rfl w.heap.size X rfl rfl 47 Y (by with_reducible exact A3.out) (by rw [XZ.out]; kernel_rfl) (by rw [XZ.out, HYz.out]) (by rw [HX.out]; exact root_one) ?_))
  have hld := ret47r (heap_setRow (cs := X) A3.out) XZ.out
  refine bodyPost_ret (v := .agg X) (by simp [results, Try.results61, asAddr, Act.put, hld]) rfl ⟨by rw [HX.out], ?_, ?_⟩
  · rw [show (false || !(rootD x).isSome) = true from by rw [Bool.false_or, ← rootE_ne, HZ.out]]
    exact G.out.1.keep (Frm.setRow _ _ _).1 (by simp; have h_ := PL.out; omega)
  · have h1 := M2.out.trans (G.out.2.trans (Frm.refl [p] _))
    refine ⟨?_, ?_, ?_, ?_, ?_⟩
    · exact (Frm.setRow _ _ _).1.os.trans h1.os
    · exact (Frm.setRow _ _ _).1.tape.trans h1.tape
    · exact (Frm.setRow _ _ _).1.output.trans h1.output
    · rw [(Frm.setRow _ _ _).2]; exact h1.size
    · intro k hk hn
      rw [(Frm.setRow _ _ _).1.block k (Nat.lt_of_lt_of_le hk h1.size) (by simp; omega)]
      exact h1.block k hk hn
theorem root_any (x : List UInt8) (ls : List (List UInt8)) (bad : Bool) (p lo : Nat) (w : World) (h : Fld w p lo (x :: ls) bad) (hm : x.length ≤ 140737488355328) : Calls Try.prog 61 #[.pointer (some ⟨p, 0, none⟩)] w (RootFPost x ls bad p lo w) := by
  cases bad with
  | true => exact root_bad x ls p lo w h hm
  | false =>
    cases hz : (rootE x != 0) with
    | false => exact root_e0 x ls p lo w h hm hz
    | true => exact root_e1 x ls p lo w h hm hz
end Go.Proofs.Ytbpgbihcihnieaa
