/- The texts Y10 Y11 U1 Y12 of this work, merged by wip/merge.py. No conditions. -/
import Derived.Test.YtbcpmnnlhdgbhaaGreatDoorQG35
import Derived.Lib.SlBytesConst
namespace Go.Proofs.YtbcpmnnlhdgbhaaGreatDoor
open Go.RowKit
def placeV (w : World) (g : Nat) : Int := match w.cell? ⟨g, 18, none⟩ with | some (.int _ n) => n | _ => 0
def OpenPost (base : Nat) (od : Nat → Prop) (gd : Nat) (s : DS) (p : Int) (recs : List (List UInt8)) (w : World) (e : Ending) (w' : World) : Prop :=
  ∃ gl own', e = .returned (.tuple #[.pointer (some ⟨gl, 0, none⟩), .int .i64 0]) ∧ LG w' base own' gd gl s p recs ∧ Below w.heap.size w w' ∧ ∀ k, own' k → od k ∨ w.heap.size ≤ k
theorem buildLog (gd : Nat) : Tryz.prog.built 190 [(0, .pointer (some ⟨gd, 0, none⟩))] = some (logC gd 0 (.slice none 0 0)) := by kernel_rfl
theorem log_new {w : World} {base gd : Nat} {od : Nat → Prop} {s : DS} {S P : Value} (h : Dsk w base od gd s S P) (hb : base ≤ w.heap.size) :
    LGx (w.alloc (.cells (logC gd 0 (.slice none 0 0)) 190)) base (fun k => od k ∨ k = w.heap.size) od gd w.heap.size s S P 0 (.slice none 0 0) [] [] := by
  have hB : Below w.heap.size w (w.alloc (.cells (logC gd 0 (.slice none 0 0)) 190)) := (Below.refl _ _).alloc (Nat.le_refl _) _
  refine ⟨h.below hB, fun k hk => .inl hk, heap_alloc_new w _, .inr rfl, fun e => by have := (h.bnd _ e).2; omega, ⟨World.ownsRow_nil _ _ _ _, fun i hi => by simp at hi, fun i j u u' _ hu => by simp at hu⟩, (fun k hk => by cases hk), (fun u hu => by cases hu), fun k hk => ?_⟩
  rcases hk with hk | hk
  · exact ⟨(h.bnd k hk).1, Nat.lt_of_lt_of_le (h.bnd k hk).2 hB.size⟩
  · subst hk; exact ⟨hb, by simp⟩
theorem sl8_24 (g : Nat) (w : World) : (Instr.sliceAt 32 (.pointer (some ⟨g, 0, none⟩)) (some (.int .i64 8)) (some (.int .i64 24)) none).run Tryz.prog w = .ok (.slice (some ⟨g, 8, none⟩) 16 56) w := by
  have e64 : Tryz.prog.arrayLen 32 = 64 := by kernel_rfl
  have h1 := run_sliceAt_array_lh (P := Tryz.prog) w 32 ⟨g, 0, none⟩ (by kernel_rfl) .i64 .i64 8 24 (by omega) (by omega) (by rw [e64]; omega)
  have hs : (sizeOf (Tryz.prog.elem 32)).run Tryz.prog w = .ok 1 w := by kernel_rfl
  rw [h1, hs, Result.andThen_ok, e64]
  rfl
theorem sl0_8 (g : Nat) (w : World) : (Instr.sliceAt 32 (.pointer (some ⟨g, 0, none⟩)) none (some (.int .i64 8)) none).run Tryz.prog w = .ok (.slice (some ⟨g, 0, none⟩) 8 64) w := by
  have e64 : Tryz.prog.arrayLen 32 = 64 := by kernel_rfl
  have h1 := run_sliceAt_array_h (P := Tryz.prog) w 32 ⟨g, 0, none⟩ (by kernel_rfl) .i64 8 (by omega) (by rw [e64]; omega)
  have hs : (sizeOf (Tryz.prog.elem 32)).run Tryz.prog w = .ok 1 w := by kernel_rfl
  rw [h1, hs, Result.andThen_ok, e64]
  rfl
theorem arr8_16 (g : Nat) (w : World) : (Instr.arrayAt 188 (.slice (some ⟨g, 8, none⟩) 16 56)).run Tryz.prog w = .ok (.pointer (some ⟨g, 8, none⟩)) w := by kernel_rfl
theorem row_seg {w : World} {g o n : Nat} {l : List UInt8} {t : TypeId} {f : Nat × Nat} (h : w.heap[g]? = some (.cells (bvs l).toArray t f)) : w.rangeAt g o (bvs ((l.drop o).take n)) := fun j v hv => by
  rw [cell_of_row w g (o + j) _ _ _ h, List.getElem?_toArray]
  have hj : j < n := by
    have := (List.getElem?_eq_some_iff.1 hv).1
    rw [bvs_length, List.length_take] at this; omega
  simp only [bvs, List.getElem?_map, List.getElem?_take, if_pos hj, List.getElem?_drop] at hv ⊢
  exact hv
theorem num8_zero : numV (List.replicate 8 0) = 0 ∧ numE (List.replicate 8 0) = 0 := ⟨rfl, rfl⟩
theorem Lay.zeros {K : List Int} {secs : List (List UInt8)} {at_ : Nat} {recs : List (List UInt8)} (h : Lay K secs at_ recs) : secs.getD 0 [] = zero64 ∧ secs.getD (secs.length / 2) [] = zero64 := by
  have hl : (zero64 :: framesS K 0 recs).length = at_ := by rw [List.length_cons, h.place]; omega
  have h2 := h.fit
  have h3 := h.pos
  refine ⟨by rw [h.lay]; rfl, ?_⟩
  have e : secs[secs.length / 2]? = (zero64 :: framesS K 0 recs ++ List.replicate (secs.length - at_) zero64)[secs.length / 2]? := congrArg (fun l : List (List UInt8) => l[secs.length / 2]?) h.lay
  rw [List.getElem?_append_right (by omega), hl, List.getElem?_replicate, if_pos (by omega)] at e
  rw [List.getD_eq_getElem?_getD, show secs[secs.length / 2]? = _ from e]
  rfl
theorem Lay.take_le {K : List Int} {secs : List (List UInt8)} {at_ : Nat} {recs : List (List UInt8)} (h : Lay K secs at_ recs) (i : Nat) : 1 + (framesS K 0 (recs.take i)).length ≤ at_ := by
  have h1 := h.place
  rcases framesS_take K recs 0 i with e | e
  · have h2 := congrArg List.length e
    rw [List.length_append] at h2
    omega
  · rw [List.take_of_length_le (by omega)]; omega
theorem frame_some {w : World} {base gd gl : Nat} {own od : Nat → Prop} {secs : List (List UInt8)} {full : Bool} {f : Int} {S P rv : Value} {p : Int} {recs : List (List UInt8)} {vs : List Value} (h : LGx w base own od gd gl (dst secs full f) S P p rv recs vs) (K : List Int) (at_ number : Nat) (hnum : number < 4294967296) (hkt : KT w K) (hat : at_ ≤ 65536) (r : List UInt8) (hF : frameF K secs at_ number = some r) :
    Calls Tryz.prog 115 #[.pointer (some ⟨gl, 0, none⟩), .int .i64 (at_ : Int), .int .u64 (number : Int)] w fun e w' => ∃ A c, e = .returned (.tuple #[.slice A r.length c, .int .i64 (secsN r.length : Nat), .int .i64 0]) ∧ Own8 w' w.heap.size (.slice A r.length c) r ∧ Below w.heap.size w w' := by
  refine (frame_any h K at_ number hnum hkt hat).mono ?_
  rintro e w' ⟨hb, ⟨h0, _⟩ | ⟨rec, v, h1, h2, h3, _⟩⟩
  · rw [hF] at h0; cases h0
  · rw [hF] at h1; cases h1
    obtain ⟨A, c, rfl, _, _⟩ := own8_form h3
    exact ⟨A, c, h2, h3, hb⟩
theorem frame_none {w : World} {base gd gl : Nat} {own od : Nat → Prop} {secs : List (List UInt8)} {full : Bool} {f : Int} {S P rv : Value} {p : Int} {recs : List (List UInt8)} {vs : List Value} (h : LGx w base own od gd gl (dst secs full f) S P p rv recs vs) (K : List Int) (at_ number : Nat) (hnum : number < 4294967296) (hkt : KT w K) (hat : at_ ≤ 65536) (hF : frameF K secs at_ number = none) :
    Calls Tryz.prog 115 #[.pointer (some ⟨gl, 0, none⟩), .int .i64 (at_ : Int), .int .u64 (number : Int)] w fun e w' => e = .returned (.tuple #[.slice none 0 0, .int .i64 0, .int .i64 0]) ∧ Below w.heap.size w w' := by
  refine (frame_any h K at_ number hnum hkt hat).mono ?_
  rintro e w' ⟨hb, ⟨_, h0⟩ | ⟨rec, v, h1, _⟩⟩
  · exact ⟨h0, hb⟩
  · rw [hF] at h1; cases h1
set_option maxRecDepth 100000 in
set_option maxHeartbeats 4000000 in
theorem Open_any {w : World} {base gd : Nat} {od : Nat → Prop} {secs : List (List UInt8)} {full : Bool} {f : Int} {S P : Value} (h : Dsk w base od gd (dst secs full f) S P) (hb : base ≤ w.heap.size) (K : List Int) (at_ : Nat) (recs : List (List UInt8)) (hlay : Lay K secs at_ recs) (hsz : ∀ r ∈ recs, r.length ≤ 65536) (h64 : 64 ≤ secs.length) (hrl : recs.length ≤ 1000000) (hkt : KT w K) :
    Calls Tryz.prog 77 #[.pointer (some ⟨gd, 0, none⟩)] w (OpenPost base od gd (dst secs full f) (at_ : Int) recs w) := by
  have hmx : secs.length ≤ 65536 := h.ok.max
  have HMX := Lib.hid hmx
  obtain ⟨nS, hnS⟩ : ∃ nS, nS = secs.length := ⟨_, rfl⟩
  have HNS := Lib.hid hnS
  have hd64 : decide ((nS : Int) < 64) = false := by simp; omega
  have hnI : (nS : Int) ≤ 65536 := by omega
  obtain ⟨LC, hLC⟩ : ∃ C, C = logC gd 0 (.slice none 0 0) := ⟨_, rfl⟩
  have hbu : Hid (Tryz.prog.built 190 [(0, .pointer (some ⟨gd, 0, none⟩))] = some LC) := by show _ = _; rw [hLC]; exact buildLog gd
  have HD := Lib.hid h
  have HLAY := Lib.hid hlay
  have HSZ := Lib.hid hsz
  have HK := Lib.hid hkt
  have HRL := Lib.hid hrl
  obtain ⟨w1, hw1⟩ : ∃ w1, w.alloc (.cells LC 190) = w1 := ⟨_, rfl⟩
  have hX1 := log_new h hb
  obtain ⟨gl, hgl⟩ : ∃ gl, w.heap.size = gl := ⟨_, rfl⟩
  rw [← hLC, hw1, hgl] at hX1
  have HGL := Lib.hid hgl
  have HX1 := Lib.hid hX1
  have HB1 : Hid (Below w.heap.size w w1) := by show Below _ _ _; rw [← hw1]; exact (Below.refl _ _).alloc (Nat.le_refl _) _
  have HW1 := Lib.hid hw1
  have HBASE := Lib.hid hb
  clear h hb hlay hsz h64 hrl hkt hmx hnS hLC hw1 hX1 hgl
  go_enter Tryz.func77, Tryz.ntmps77
  go_wp2_with (first
    | (go_at_call 111; go_must (refine (Sectors_any HD.out).mono ?_; rintro e w_ ⟨rfl, hw_⟩; have hw_ := hw_.symm; subst hw_; rw [show (dst secs full f).secs.length = nS from HNS.out.symm]))
    | (refine wpList_build_to rfl _ _ rfl [(0, .pointer (some ⟨gd, 0, none⟩))] rfl LC (by with_reducible exact hbu.out) ?_))
  rw [HW1.out, HGL.out]
  obtain ⟨hb_, hhb⟩ : ∃ h, gl + 1 = h := ⟨_, rfl⟩
  have hs1 : w1.heap.size = hb_ := by rw [← hhb, ← HGL.out, ← HW1.out]; simp
  obtain ⟨w2, hw2⟩ : ∃ w2, w1.alloc (.cells #[.int .u64 0, .int .u64 1] 30) = w2 := ⟨_, rfl⟩
  have HR2 : Hid (w2.heap[hb_]? = some (.cells #[.int .u64 0, .int .u64 1] 30 (0, 0)) ∧ Below w1.heap.size w1 w2) := by
    show _ ∧ _
    rw [← hw2, ← hs1]
    exact ⟨heap_alloc_new w1 _, (Below.refl _ _).alloc (Nat.le_refl _) _⟩
  rw [hw2, hhb]
  have HL2 := Lib.hid hs1
  clear hw2 hhb hs1
  obtain ⟨CZ, hCZ⟩ : ∃ zs : Array Value, zs = (bvs zero64).toArray := ⟨_, rfl⟩
  have hz64 := zero64a
  rw [show (bvs (List.replicate 64 0)).toArray = CZ from hCZ.symm] at hz64
  have HCZ : Hid (CZ.size = 64) := by show _ = _; rw [hCZ]; rfl
  have HC1 : Hid (CZ.all (·.oneCell') = true) := by show _ = _; rw [hCZ]; exact all_oneCell_toArray (bvs_one _)
  have HCE := Lib.hid hCZ
  have hs8 := sl8_24
  have hs0 := sl0_8
  have harr := arr8_16
  obtain ⟨XZ, hXZ⟩ : ∃ zs : Array Value, zs = (bvs zero16).toArray := ⟨_, rfl⟩
  have hz16 : ∀ w, (zeroValue 188).run Tryz.prog w = .ok (.agg XZ) w := fun w => by rw [hXZ]; kernel_rfl
  have HXZ : Hid (XZ.size = 16) := by show _ = _; rw [hXZ]; rfl
  have HX1' : Hid (XZ.all (·.oneCell') = true) := by show _ = _; rw [hXZ]; exact all_oneCell_toArray (bvs_one _)
  have HXE := Lib.hid hXZ
  clear hCZ hXZ hd64
  go_loopw [23] (fun i wr => ∃ k : Nat, k ≤ 2 ∧ i = .int .i64 (k : Int) ∧ Hid (Below w2.heap.size w2 wr)) (fun i _ => 2 - (intOf i).toNat)
  case atStart => exact ⟨0, Nat.zero_le _, rfl, Below.refl _ _⟩
  case round =>
    obtain ⟨k, hk, rfl, hO⟩ := hrel
    by_cases hlt : k < 2
    · have hlt' : (k : Int) < 2 := by omega
      have hk0 : (0 : Int) ≤ (k : Int) := by omega
      have HBW := Lib.hid hO.out
      have HBW1 := Lib.hid (HR2.out.2.trans (hO.out.mono HR2.out.2.size))
      have HXr := Lib.hid (HX1.out.below HBW1.out)
      have HLT := Lib.hid hlt
      have cc : wr.cell? ⟨hb_, k, none⟩ = some (.int .u64 (k : Int)) := by
        rw [cell_of_row wr hb_ k _ _ _ (heap_below HR2.out.1 HBW.out)]
        match k, hlt with
        | 0, _ => rfl
        | 1, _ => rfl
      obtain ⟨pl, hpl⟩ : ∃ pl, pl = k * (secs.length / 2) := ⟨_, rfl⟩
      have hrv : (dst secs full f).read (pl : Int) = (zero64, 0) := by
        have h2 := HLAY.out.pos
        rw [read_v (by rw [hpl]; match k, hlt with
          | 0, _ => omega
          | 1, _ => omega)]
        have hz := HLAY.out.zeros
        rw [hpl]
        match k, hlt with
        | 0, _ => rw [Nat.zero_mul, hz.1]
        | 1, _ => rw [Nat.one_mul, hz.2]
      have HRV := Lib.hid hrv
      have HPL := Lib.hid hpl
      clear hO hlt hk hrv hpl
      go_wp2_with (first
        | (go_at_call 113; go_must (refine (base_any HXr.out k HLT.out).mono ?_; rintro e w_ ⟨rfl, hw_⟩; have hw_ := hw_.symm; subst hw_; rw [show k * ((dst secs full f).secs.length / 2) = pl from HPL.out.symm]))
        | (go_at_call 112; go_must (refine (Read_any HXr.out.dsk (pl : Int)).mono ?_; rintro e w3 ⟨rfl, hb3⟩; rw [HRV.out]; rw [← HCE.out]; have HB3 := Lib.hid hb3; clear hb3))
        | (refine wpList_store_row rfl _ _ _ rfl w3.heap.size CZ rfl rfl 32 CZ (by with_reducible exact heap_alloc_new w3 _) (by rw [HCZ.out]; kernel_rfl) rfl HC1.out ?_; obtain ⟨w4, hw4⟩ : ∃ w4, (w3.alloc (.cells CZ 32)).setRow w3.heap.size CZ = w4 := ⟨_, rfl⟩; have HR4 : Hid (w4.heap[w3.heap.size]? = some (.cells CZ 32 (0, 0)) ∧ Below w3.heap.size w3 w4) := (by show _ ∧ _; rw [← hw4]; exact ⟨heap_setRow (heap_alloc_new w3 _), ((Below.refl _ _).alloc (Nat.le_refl _) _).trans ((Frm.setRow _ _ _).1.below (by simp) (by simp))⟩); have HSG : Hid (w4.rangeAt w3.heap.size 8 XZ.toList) := (by show World.rangeAt _ _ _ _; rw [HXE.out, List.toList_toArray]; have h_ := HR4.out.1; rw [HCE.out] at h_; exact row_seg (n := 16) h_); have HSH : Hid (Reads w4 w4.heap.size 1 (some ⟨w3.heap.size, 0, none⟩) 8 (bvs (List.replicate 8 0))) := (by show Reads _ _ _ _ _ _; have h_ := HR4.out.1; rw [HCE.out] at h_; exact (reads_block h_ (n := 64) rfl).take (k := 8) (by omega)); rw [hw4]; clear hw4)
        | (refine wpList_load_arr rfl _ _ rfl w3.heap.size 8 rfl XZ _ (by with_reducible exact HSG.out) Tryz.underlying188 rfl (by rw [HXZ.out]; kernel_rfl) ?_)
        | (refine wpList_store_row rfl _ _ _ rfl w4.heap.size XZ rfl rfl 188 XZ (by with_reducible exact heap_alloc_new w4 _) (by rw [HXZ.out]; kernel_rfl) rfl HX1'.out ?_; obtain ⟨w5, hw5⟩ : ∃ w5, (w4.alloc (.cells XZ 188)).setRow w4.heap.size XZ = w5 := ⟨_, rfl⟩; have HB5 : Hid (Below w4.heap.size w4 w5) := (by show Below _ _ _; rw [← hw5]; exact ((Below.refl _ _).alloc (Nat.le_refl _) _).trans ((Frm.setRow _ _ _).1.below (by simp) (by simp))); rw [hw5]; clear hw5)
        | (go_at_call 46; go_must (refine (ReadNum_any (some ⟨w3.heap.size, 0, none⟩) 64 _ (List.replicate 8 0) w5 (reads_bel HSH.out HB5.out) (by decide) (by simp)).mono ?_; rintro e w6 ⟨rfl, q6, hq6⟩; rw [num8_zero.1, num8_zero.2]; have HB6 : Hid (Below wr.heap.size wr w6) := (by show Below _ _ _; rw [hq6]; exact (HB3.out.trans ((HR4.out.2.trans (HB5.out.mono HR4.out.2.size)).mono HB3.out.size)).trans ⟨rfl, rfl, rfl, Nat.le_refl _, fun _ _ => rfl⟩); have g1 := (HXr.out.below HB6.out).c1; clear hq6)))
      go_quiet (fail)
      go_wp2
      go_roundw
      case rel =>
        have h1_ := HB6.out.trans (show Below wr.heap.size w6 (w6.drewN nq) from ⟨rfl, rfl, rfl, Nat.le_refl _, fun _ _ => rfl⟩)
        exact ⟨k + 1, HLT.out, by go_num, HBW.out.trans (h1_.mono HBW.out.size)⟩
      case measure => simp [intOf]; omega
    · have hk2 : k = 2 := by omega
      have hd2 : decide ((k : Int) < 2) = false := by simp; omega
      have HBW1 := Lib.hid (HR2.out.2.trans (hO.out.mono HR2.out.2.size))
      have HXr := Lib.hid (HX1.out.below HBW1.out)
      have hfz := frozen_row HXr.out.blk
      have cc := HXr.out.c18
      clear hO hlt hk hk2 hs8 hs0 harr hz64 hz16
      go_wp2
      obtain ⟨w5, hw5⟩ : ∃ w5, wr.setCell ⟨gl, 18, none⟩ (.int .i64 1) = w5 := ⟨_, rfl⟩
      have HX5 := HXr.out.set 18 (.int .i64 1) 1 rfl
      rw [hw5] at HX5 ⊢
      have HGS : Hid (w.heap.size = gl) := HGL.out
      have HB5 : Hid (Below w.heap.size w w5) := by
        show Below _ _ _
        rw [← hw5]
        exact (HB1.out.trans (HBW1.out.mono HB1.out.size)).setCell (p := ⟨gl, 18, none⟩) (Nat.le_of_eq HGL.out) _
      have HX6 := Lib.hid HX5.1
      clear hw5 HX5 hfz cc
      have HI0 : Hid (∃ own' rv vs, LGx w5 base own' od gd gl (dst secs full f) S P ((1 + (framesS K 0 (recs.take 0)).length : Nat) : Int) rv (recs.take 0) vs ∧ ∀ k, own' k → od k ∨ w.heap.size ≤ k) := by
        show ∃ _, _
        rw [List.take_zero]
        exact ⟨_, _, _, HX6.out, fun k hk => by
          rcases hk with hk | hk
          · exact .inl hk
          · exact .inr (by rw [HGS.out, hk]; exact Nat.le_refl _)⟩
      go_loopw [] (fun wr => ∃ i : Nat, i ≤ recs.length ∧ Hid (Below w.heap.size w wr ∧ ∃ own' rv vs, LGx wr base own' od gd gl (dst secs full f) S P ((1 + (framesS K 0 (recs.take i)).length : Nat) : Int) rv (recs.take i) vs ∧ ∀ k, own' k → od k ∨ w.heap.size ≤ k)) (fun wr => (70000 - placeV wr gl).toNat)
      case atStart => exact ⟨0, Nat.zero_le _, HB5.out, HI0.out⟩
      clear HI0 HX6 HXr HBW1
      case round =>
        obtain ⟨i, hi, hO⟩ := hrel
        obtain ⟨hbw, own', rv, vs, hx, hown⟩ := hO.out
        obtain ⟨AR, cR, hrv, hcR, _⟩ := (show OwnL wr base rv (recs.take i) from ⟨vs, hx.lst⟩).lists
        subst hrv
        have htl : (recs.take i).length = i := by rw [List.length_take]; omega
        rw [htl] at hx
        obtain ⟨p, hp⟩ : ∃ p, p = 1 + (framesS K 0 (recs.take i)).length := ⟨_, rfl⟩
        rw [← hp] at hx
        have HX := Lib.hid hx
        have HBW := Lib.hid hbw
        have HOWN := Lib.hid hown
        have HP := Lib.hid hp
        have HTL := Lib.hid htl
        have hpl : p ≤ 65536 := by
          have h1 := HLAY.out.take_le i
          have h2 := HLAY.out.fit
          have h3 := HMX.out
          omega
        have hp0 : (0 : Int) ≤ (p : Int) := by omega
        have hp1 : (p : Int) ≤ 65536 := by omega
        have HPL := Lib.hid hpl
        have hiI : (i : Int) ≤ 1000000 := by have := HRL.out; omega
        have CB : Hid (∀ w', Below wr.heap.size wr w' → w'.cell? ⟨gl, 18, none⟩ = some (.int .i64 (p : Int)) ∧ w'.cell? ⟨gl, 19, none⟩ = some (.slice AR i cR)) := fun w' hw' => ⟨(hx.below hw').c18, (hx.below hw').c19⟩
        have HI := Lib.hid hi
        clear hO hbw hx hown hcR htl hp hpl hi
        go_wp2
        refine AnyC.startB (fun w' => Below wr.heap.size wr w') (by kernel_rfl) rfl ?_
        intro w6 hb6 hs6
        have HB6 := Lib.hid hb6
        clear hb6 hs6
        apply AnyC.take (i := 0) rfl (by kernel_rfl) rfl
        · intro w' hC K hK
          go_wp2
          exact hK
        · rfl
        apply AnyC.take (i := 1) rfl (by kernel_rfl) rfl
        · intro w' hC K hK
          go_wp2
          exact hK
        · rfl
        apply AnyC.take (i := 2) rfl (by kernel_rfl) rfl
        · intro w' hC K hK
          go_wp2
          exact hK
        · rfl
        apply AnyC.take (i := 3) rfl (by kernel_rfl) rfl
        · intro w' hC K hK
          go_wp2
          exact hK
        · rfl
        apply AnyC.take (i := 4) rfl (by kernel_rfl) rfl
        · intro w' hC K hK
          have cc := (CB.out w' hC).1
          go_wp2
          exact hK
        · rfl
        apply AnyC.take (i := 5) rfl (by kernel_rfl) rfl
        · intro w' hC K hK
          go_wp2
          exact hK
        · rfl
        apply AnyC.take (i := 6) rfl (by kernel_rfl) rfl
        · intro w' hC K hK
          go_wp2
          exact hK
        · rfl
        apply AnyC.take (i := 7) rfl (by kernel_rfl) rfl
        · intro w' hC K hK
          go_wp2
          exact hK
        · rfl
        apply AnyC.take (i := 8) rfl (by kernel_rfl) rfl
        · intro w' hC K hK
          have cc := (CB.out w' hC).2
          go_wp2
          exact hK
        · rfl
        apply AnyC.take (i := 9) rfl (by kernel_rfl) rfl
        · intro w' hC K hK
          go_wp2
          exact hK
        · rfl
        apply AnyC.take (i := 10) rfl (by kernel_rfl) rfl
        · intro w' hC K hK
          go_wp2
          exact hK
        · rfl
        apply AnyC.solo (i := 11) rfl (by kernel_rfl) HB6.out
        have KW : Hid (KT w6 K) := HK.out.bel (HBW.out.trans (HB6.out.mono HBW.out.size))
        by_cases hlt : i < recs.length
        · obtain ⟨r, hr⟩ : ∃ r, recs[i]? = some r := ⟨recs[i], List.getElem?_eq_getElem hlt⟩
          have hfr := HLAY.out.frame HSZ.out hr
          rw [← HP.out] at hfr
          have HFR := Lib.hid hfr
          have HRI := Lib.hid hr
          have HLT := Lib.hid hlt
          have hrz := HSZ.out r (List.mem_of_getElem? hr)
          have HRZ := Lib.hid hrz
          obtain ⟨sn, hsn⟩ : ∃ sn, secsN r.length = sn := ⟨_, rfl⟩
          have hs1 : (1 : Int) ≤ (sn : Int) := by unfold secsN at hsn; omega
          have hs2 : (sn : Int) ≤ 2000 := by unfold secsN at hsn; omega
          have hne : ((sn : Int) == 0) = false := by simp; omega
          have HSN := Lib.hid hsn
          clear hfr hr hlt hsn hrz
          go_wp2_with (go_at_call 115; go_must (refine (frame_some (HX.out.below HB6.out) K p i (by have := HRL.out; have := HI.out; omega) KW.out HPL.out r HFR.out.1).mono ?_; rintro e w7 ⟨Ar, cr, rfl, hor, hb7⟩; rw [HSN.out]; have HOR := Lib.hid hor; have HB7 := Lib.hid (HB6.out.trans (hb7.mono HB6.out.size)); have HB67 := Lib.hid hb7; clear hor hb7))
          refine ⟨rfl, ?_⟩
          apply AnyC.take (i := 12) rfl (by kernel_rfl) rfl
          · intro w' hC K hK
            go_wp2
            exact hK
          · rfl
          apply AnyC.take (i := 13) rfl (by kernel_rfl) rfl
          · intro w' hC K hK
            go_wp2
            exact hK
          · rfl
          apply AnyC.take (i := 14) rfl (by kernel_rfl) rfl
          · intro w' hC K hK
            go_wp2
            exact hK
          · rfl
          apply AnyC.take (i := 15) rfl (by kernel_rfl) rfl
          · intro w' hC K hK
            go_wp2
            exact hK
          · rfl
          apply AnyC.take (i := 16) rfl (by kernel_rfl) rfl
          · intro w' hC K hK
            go_wp2
            exact hK
          · rfl
          apply AnyC.take (i := 17) rfl (by kernel_rfl) rfl
          · intro w' hC K hK
            go_wp2
            exact hK
          · rfl
          apply AnyC.take (i := 18) rfl (by kernel_rfl) rfl
          · intro w' hC K hK
            go_wp2
            exact hK
          · rfl
          refine AnyC.done HB7.out (by kernel_rfl) ?_
          have c19 := (HX.out.below HB7.out).c19
          have HB8 : Hid (Below wr.heap.size wr (w7.alloc (.cells #[.slice Ar r.length cr] 96))) := by show Below _ _ _; exact HB7.out.alloc HB7.out.size _
          have LL6 : Hid (OwnLL w6 base (.slice AR i cR) (recs.take i) vs) := (HX.out.below HB6.out).lst
          have GLT := Lib.hid (HX.out.bnd gl HX.out.ogl).2
          go_wp2_with (at_builtin; go_must (refine appLL (g := w7.heap.size) (c := 1) (wr := w6) rfl rfl rfl rfl LL6.out (heap_cell_new w7 _) (HB67.out.alloc HB67.out.size _) (own8_below HOR.out ((Below.refl _ _).alloc (Nat.le_refl _) _)) (by have := HRL.out; have := HI.out; rw [HTL.out]; omega) (Nat.le_trans (HX.out.bnd gl HX.out.ogl).1 (by have h_ := GLT.out; have h2_ := HB6.out.size; omega)) ?_; intro v16 w16 hL16 hg16 hv16; have PU := (HX.out.below HB8.out).pushed hL16 hg16 hv16 (u := .slice Ar r.length cr) (B := w6.heap.size) (fun k_ hk_ => (by have h_ := own8_lt HOR.out k_ hk_; exact ⟨h_.1, by simp; omega⟩)) (fun k_ hk_ => (by have h_ := (HX.out.bnd k_ hk_).2; have h2_ := HB6.out.size; omega)) (by have h_ := HB67.out.size; simp; omega); obtain ⟨own17, hX17, hT17, hO17⟩ := PU; obtain ⟨A16, c16, hve, _, _⟩ := (show OwnL w16 base v16 (recs.take i ++ [r]) from ⟨_, hL16⟩).lists; subst hve; have hl1 : (recs.take i ++ [r]).length = i + 1 := (by rw [List.length_append, HTL.out]; rfl); rw [hl1] at hX17 hT17 ⊢; clear hl1; have e16 : w16.heap[gl]? = (w7.alloc (.cells #[.slice Ar r.length cr] 96)).heap[gl]? := hg16.block gl (by have h_ := GLT.out; have h2_ := HB8.out.size; omega) (fun e_ => (HX.out.ror gl e_.symm).2.2 rfl); have cc16 : w16.cell? ⟨gl, 19, none⟩ = some (.slice AR i cR) := (World.cell?_of_block (a := ⟨gl, 19, none⟩) e16).trans (HX.out.below HB8.out).c19; have cc18 : w16.cell? ⟨gl, 18, none⟩ = some (.int .i64 (p : Int)) := (World.cell?_of_block (a := ⟨gl, 18, none⟩) e16).trans (HX.out.below HB8.out).c18; have hfz16 : ∀ j_, w16.frozen? ⟨gl, j_, none⟩ = false := (fun j_ => (World.frozen?_of_block (a := ⟨gl, j_, none⟩) e16).trans (frozen_row (HX.out.below HB8.out).blk j_)); have HX17 := Lib.hid hX17; have HT17 := Lib.hid (And.intro hT17 hO17); have HB16 : Hid (Below w.heap.size w w16) := (by show Below _ _ _; have h0_ := HBW.out.trans (HB8.out.mono HBW.out.size); exact h0_.grown hg16 h0_.size (fun k_ hk_ => (by have h1_ := HX.out.ror k_ hk_; rcases HOWN.out k_ h1_.1 with h2_ | h2_; exact absurd h2_ h1_.2.1; exact h2_))); clear hX17 hT17 hO17 hL16 hg16 hv16 e16))
          have HX18 := HX17.out.set 18 (.int .i64 ((p : Int) + (sn : Int))) ((p : Int) + (sn : Int)) rfl
          have htk : recs.take (i + 1) = recs.take i ++ [r] := by rw [List.take_add_one, HRI.out]; rfl
          have hpn : ((1 + (framesS K 0 (recs.take (i + 1))).length : Nat) : Int) = (p : Int) + (sn : Int) := by rw [HFR.out.2, HSN.out, HP.out]; omega
          refine ⟨⟨i + 1, HLT.out, ?_, own17, _, _, by rw [hpn, htk]; exact HX18.1, fun k_ hk_ => ?_⟩, ?_⟩
          · exact ((HB16.out.setCell (p := ⟨gl, 19, none⟩) (Nat.le_of_eq HGS.out) _)).setCell (p := ⟨gl, 18, none⟩) (Nat.le_of_eq HGS.out) _
          · rcases HT17.out.2 k_ hk_ with h_ | h_
            · exact HOWN.out k_ h_
            · exact .inr (by have h1_ := HBW.out.size; have h2_ := HB6.out.size; omega)
          · have m1 : placeV ((w16.setCell ⟨gl, 19, none⟩ (.slice A16 (i + 1) c16)).setCell ⟨gl, 18, none⟩ (.int .i64 ((p : Int) + (sn : Int)))) gl = (p : Int) + (sn : Int) := by
              unfold placeV
              rw [HX18.1.c18]
            have m2 : placeV wr gl = (p : Int) := by
              unfold placeV
              rw [HX.out.c18]
            rw [m1, m2]
            omega
        · have hie : i = recs.length := by have := HI.out; omega
          have hF : frameF K secs p i = none := by
            rw [HP.out, hie, List.take_of_length_le (Nat.le_refl _), ← HLAY.out.place]
            exact HLAY.out.last
          have HF := Lib.hid hF
          have FIN : Hid (∀ w', Below wr.heap.size wr w' → OpenPost base od gd (dst secs full f) (at_ : Int) recs w (.returned (.tuple #[.pointer (some ⟨gl, 0, none⟩), .int .i64 0])) w') := by
            show ∀ _, _
            intro w' hw'
            refine ⟨gl, own', rfl, ?_, HBW.out.trans (hw'.mono HBW.out.size), HOWN.out⟩
            have h1 := HX.out.below hw'
            have h2 : (p : Int) = (at_ : Int) := by rw [HP.out, hie, List.take_of_length_le (Nat.le_refl _), ← HLAY.out.place]
            rw [h2, hie, List.take_of_length_le (Nat.le_refl _)] at h1
            exact ⟨od, S, P, _, _, h1⟩
          clear hlt hie hF
          go_wp2_with (go_at_call 115; go_must (refine (frame_none (HX.out.below HB6.out) K p i (by have := HRL.out; have := HI.out; omega) KW.out HPL.out HF.out).mono ?_; rintro e w7 ⟨rfl, hb7⟩; have HB7 := Lib.hid (HB6.out.trans (hb7.mono HB6.out.size)); clear hb7))
          refine ⟨rfl, ?_⟩
          apply AnyC.take (i := 12) rfl (by kernel_rfl) rfl
          · intro w' hC K hK
            go_wp2
            exact hK
          · rfl
          apply AnyC.take (i := 13) rfl (by kernel_rfl) rfl
          · intro w' hC K hK
            go_wp2
            exact hK
          · rfl
          apply AnyC.take (i := 14) rfl (by kernel_rfl) rfl
          · intro w' hC K hK
            go_wp2
            exact hK
          · rfl
          apply AnyC.take (i := 15) rfl (by kernel_rfl) rfl
          · intro w' hC K hK
            go_wp2
            exact hK
          · rfl
          apply AnyC.take (i := 16) rfl (by kernel_rfl) rfl
          · intro w' hC K hK
            go_wp2
            exact hK
          · rfl
          apply AnyC.take (i := 17) rfl (by kernel_rfl) rfl
          · intro w' hC K hK
            go_wp2
            exact hK
          · rfl
          apply AnyC.take (i := 18) rfl (by kernel_rfl) rfl
          · intro w' hC K hK
            go_wp2
            exact hK
          · rfl
          refine AnyC.done HB7.out (by kernel_rfl) ?_
          go_wp2
          go_ret2
          exact FIN.out w7 HB7.out
end Go.Proofs.YtbcpmnnlhdgbhaaGreatDoor

namespace Go.Proofs.YtbcpmnnlhdgbhaaGreatDoor
open Go.RowKit
theorem New_dsk (n : Nat) (h1 : 1 ≤ n) (h2 : n ≤ 65536) (w : World) : Calls Tryz.prog 18 #[.int .i64 (n : Int)] w fun e w' => ∃ g S P od, e = .returned (.tuple #[.pointer (some ⟨g, 0, none⟩), .int .i64 0]) ∧ Dsk w' w.heap.size od g (dst (List.replicate n zero64) false 0) S P ∧ Below w.heap.size w w' := by
  refine (New_any n h1 h2 w).mono ?_
  rintro e w' ⟨g, S, P, he, hD, hb⟩
  exact ⟨g, S, P, _, he, hD, hb⟩
theorem Open_nil (w : World) : Calls Tryz.prog 77 #[.pointer none] w fun e w' => e = .returned (.tuple #[.pointer none, .int .i64 1]) ∧ w' = w := by
  go_enter Tryz.func77, Tryz.ntmps77
  go_wp2
  go_ret2
  exact ⟨rfl, rfl⟩
theorem LG.lt {w : World} {base gd gl : Nat} {own : Nat → Prop} {s : DS} {p : Int} {recs : List (List UInt8)} (h : LG w base own gd gl s p recs) {k : Nat} (hk : own k) : k < w.heap.size := by
  obtain ⟨_, _, _, _, _, h⟩ := h; exact (h.bnd k hk).2
end Go.Proofs.YtbcpmnnlhdgbhaaGreatDoor

namespace Go.Proofs.YtbcpmnnlhdgbhaaGreatDoor
open Go.RowKit
/-- The cells of the change. -/
def chg : Array Value := #[.string ⟨#[113, 0, 0, 0, 0, 0, 0, 0, 0]⟩, .string ⟨#[0, 0, 0, 3, 0, 0, 0, 5, 98, 97, 116, 99, 104, 0, 0, 0, 1, 97, 0, 0, 0, 0]⟩, .bool false]
def BatchAt (w : World) (b : Nat) : Prop := w.heap[b]? = some (.cells #[.string ⟨#[113, 0, 0, 0, 0, 0, 0, 0, 0]⟩, .string ⟨#[0, 0, 0, 3, 0, 0, 0, 5, 98, 97, 116, 99, 104, 0, 0, 0, 1, 97, 0, 0, 0, 0]⟩, .bool false] 94 (0, 0))
theorem BatchAt.bel {w w' : World} {b : Nat} (h : BatchAt w b) (hb : Below w.heap.size w w') : BatchAt w' b := heap_below h hb
theorem BatchAt.cells {w : World} {b : Nat} (h : BatchAt w b) : w.cell? ⟨b, 0, none⟩ = some (.string ⟨#[113, 0, 0, 0, 0, 0, 0, 0, 0]⟩) ∧ w.cell? ⟨b, 1, none⟩ = some (.string ⟨#[0, 0, 0, 3, 0, 0, 0, 5, 98, 97, 116, 99, 104, 0, 0, 0, 1, 97, 0, 0, 0, 0]⟩) ∧ w.cell? ⟨b, 2, none⟩ = some (.bool false) :=
  ⟨cell_of_row _ _ _ _ _ _ h, cell_of_row _ _ _ _ _ _ h, cell_of_row _ _ _ _ _ _ h⟩
theorem size_kv (w : World) : Calls Tryz.prog 87 #[.agg #[.string ⟨#[113, 0, 0, 0, 0, 0, 0, 0, 0]⟩, .string ⟨#[0, 0, 0, 3, 0, 0, 0, 5, 98, 97, 116, 99, 104, 0, 0, 0, 1, 97, 0, 0, 0, 0]⟩, .bool false]] w fun e w' => e = .returned (.int .i64 47) ∧ Below w.heap.size w w' := by
  go_enter Tryz.func87, Tryz.ntmps87
  go_wp2
  go_ret
  exact ⟨rfl, (Below.refl _ _).alloc (Nat.le_refl _) _⟩
set_option maxRecDepth 100000 in
set_option maxHeartbeats 1000000 in
theorem right_kv (b : Nat) (w : World) (hb : BatchAt w b) : Calls Tryz.prog 51 #[.slice (some ⟨b, 0, none⟩) 1 1] w fun e w' => e = .returned (.int .i64 0) ∧ Below w.heap.size w w' := by
  have HB := Lib.hid hb
  clear hb
  go_enter Tryz.func51, Tryz.ntmps51
  go_wp2
  go_loopw [3, 11] (fun s i wr => ∃ k : Nat, k ≤ 1 ∧ i = .int .i64 (k : Int) ∧ s = .int .i64 (47 * (k : Int)) ∧ Hid (Below w.heap.size w wr)) (fun _ i _ => 1 - (intOf i).toNat)
  case atStart => exact ⟨0, Nat.zero_le _, rfl, rfl, Below.refl _ _⟩
  case round =>
    obtain ⟨k, hk, rfl, rfl, hW⟩ := hrel
    by_cases hlt : k < 1
    · have hlt' : (k : Int) < 1 := by omega
      obtain rfl : k = 0 := by omega
      have HBW := Lib.hid (HB.out.bel hW.out)
      obtain ⟨c0, c1, c2⟩ := HBW.out.cells
      go_wp2_with (first
        | (go_at_call 87; go_must (refine (size_kv _).mono ?_; rintro e w5 ⟨rfl, hb5⟩; have HB5 := Lib.hid hb5; clear hb5)))
      go_roundw
      case rel =>
        refine ⟨1, by omega, by go_num, by go_num, ?_⟩
        exact (hW.out.alloc hW.out.size _).trans (HB5.out.mono (hW.out.alloc hW.out.size _).size)
      case measure => simp [intOf]
    · obtain rfl : k = 1 := by omega
      go_wp2
      go_ret
      exact ⟨rfl, hW.out⟩
end Go.Proofs.YtbcpmnnlhdgbhaaGreatDoor

namespace Go.Proofs.YtbcpmnnlhdgbhaaGreatDoor
open Go.RowKit
/-- A list whose row is the call's own, and whose members lie where the call found them. -/
structure WantV (w0 wr : World) (v : Value) (ls : List (List UInt8)) (vs : List Value) : Prop where
  row : wr.ownsRow w0.heap.size 96 1 v ls.length vs
  mem : ∀ (i : Nat) (h : i < ls.length), ∃ A c, vs[i]? = some (.slice A ls[i].length c) ∧ ls[i].length ≤ c ∧ Reads w0 w0.heap.size 1 A ls[i].length (bvs ls[i])
theorem WantV.nil (w0 wr : World) : WantV w0 wr (.slice none 0 0) [] [] := ⟨World.ownsRow_nil _ _ _ _, fun i h => by simp at h⟩
theorem WantV.one {w0 wr : World} {v : Value} {ls : List (List UInt8)} {vs : List Value} (h : WantV w0 wr v ls vs) : ∀ u ∈ vs, u.oneCell' = true := by
  intro u hu
  obtain ⟨i, hi, rfl⟩ := List.getElem_of_mem hu
  have hl : i < ls.length := by have := h.row.1; omega
  obtain ⟨A, c, hv, _⟩ := h.mem i hl
  rw [List.getElem?_eq_getElem hi] at hv
  rw [Option.some.inj hv]
  rfl
theorem WantV.keep {w0 wr w' : World} {v : Value} {ls : List (List UInt8)} {vs : List Value} (h : WantV w0 wr v ls vs) (hk : ∀ k, v.ownBlock = some k → w'.heap[k]? = wr.heap[k]?) : WantV w0 w' v ls vs := ⟨row_at h.row hk, h.mem⟩
theorem WantV.form {w0 wr : World} {v : Value} {ls : List (List UInt8)} {vs : List Value} (h : WantV w0 wr v ls vs) : ∃ A c, v = .slice A ls.length c ∧ ls.length ≤ c := by
  obtain ⟨_, ⟨rfl, hn⟩ | ⟨g, cap, cur, rfl, _, _, hc, _⟩⟩ := h.row
  · have e : ls = [] := List.eq_nil_of_length_eq_zero hn
    exact ⟨none, 0, by rw [e]; rfl, by omega⟩
  · exact ⟨_, cap, rfl, hc⟩
theorem WantV.lists {w0 wr : World} {A : Option Addr} {n c : Nat} {ls : List (List UInt8)} {vs : List Value} (h : WantV w0 wr (.slice A n c) ls vs) (hb : Below w0.heap.size w0 wr) : Lists wr wr.heap.size A ls := by
  have hn : n = ls.length := by obtain ⟨A', c', e, _⟩ := h.form; cases e; rfl
  subst hn
  refine ⟨vs, ?_, fun i hi => ?_⟩
  · have h1 := Reads.of_own h.row
    exact h1
  · obtain ⟨A', c', h1, h2, h3⟩ := h.mem i hi
    exact ⟨A', c', h1, h2, (h3.below hb).more hb.size⟩
/-- Appended onto a list of the call's own. -/
theorem appW {ops : Array Oper} {rest : List Oper} {o : Oper} {a : Act} {w : World} {Q : Exit → Act → World → Prop} {s x : Operand} {base B n m c : Nat} {v : Value} {xs news : List Value} {A : Option Addr}
    (hgd : o.guard = none) (ho : o.op = .call { callee := .builtin .append, args := #[s, x], argTypes := #[100, 100] })
    (hs : a.eval s = v) (hx : a.eval x = .slice A m c) (hown : w.ownsRow base 96 1 v n xs) (hr : Reads w B 1 A m news) (h1 : ∀ u ∈ news, u.oneCell' = true) (hbytes : (n + m) * 24 ≤ 140737488355328) (hbase : base ≤ w.heap.size)
    (h : ∀ v' w', w'.ownsRow base 96 1 v' (n + m) (xs ++ news) → w.grownBy w' v.ownBlock → (v'.ownBlock = v.ownBlock ∨ v'.ownBlock = some w.heap.size) → wpList Tryz.prog ops Q rest (a.put o.dst v') w') : wpList Tryz.prog ops Q (o :: rest) a w := by
  obtain ⟨i0, hi0, hz0, hz1, hz2⟩ := info_parts slinfo
  exact wpList_append_any w hgd s x _ ho base 96 i0 _ 1 24 Tryz.underlying100 hi0 hz0 hz1 hz2 rfl (by omega) v n xs hs hown B A m c news hx hr h1 (by simp only [maxLen]; omega) hbytes hbase h
theorem reads_one (w : World) (v : Value) : Reads (w.alloc (.cells #[v] 96)) (w.alloc (.cells #[v] 96)).heap.size 1 (some ⟨w.heap.size, 0, none⟩) 1 [v] := by
  have h := reads_new w #[v] 96 1 rfl
  exact h.more (by simp)
theorem Turns.bel {w0 w w' : World} {base gd gl : Nat} {own : Nat → Prop} {s : DS} {p : Int} {recs : List (List UInt8)} (hT : Turns own w w') (hL : LG w base own gd gl s p recs) (hb : w0.heap.size ≤ base) (h : Below w0.heap.size w0 w) : Below w0.heap.size w0 w' :=
  h.trans ⟨hT.os, hT.tape, hT.output, hT.size, fun k hk => hT.block k (Nat.lt_of_lt_of_le hk h.size) (fun e => by
    obtain ⟨_, _, _, _, _, hx⟩ := hL
    have := (hx.bnd k e).1
    omega)⟩
end Go.Proofs.YtbcpmnnlhdgbhaaGreatDoor
