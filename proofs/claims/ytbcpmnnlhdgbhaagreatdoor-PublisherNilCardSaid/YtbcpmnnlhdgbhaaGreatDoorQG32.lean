/- The texts Y2 Y3 Y4 of this work, merged by wip/merge.py. No conditions. -/
import Derived.Test.YtbcpmnnlhdgbhaaGreatDoorQG31
import Derived.Test.YtbcpmnnlhdgbhaaGreatDoorQG23
namespace Go.Proofs.YtbcpmnnlhdgbhaaGreatDoor
open Go.RowKit
variable {w w' : World} {base gd gl : Nat} {own od : Nat → Prop} {s s' : DS} {S P rv : Value} {p : Int} {recs : List (List UInt8)} {vs : List Value}
theorem sectors_any (n : Nat) (hn : n ≤ 140737488355328) (w : World) : Calls Tryz.prog 88 #[.int .i64 (n : Int)] w fun e w' => e = .returned (.int .i64 (secsN n : Int)) ∧ w' = w := by
  have e1 : (20 + (n : Int) + 63 - 1) / 63 = (secsN n : Int) := by unfold secsN; omega
  have E1 := Lib.hid e1
  clear e1
  have hnI : (n : Int) ≤ 140737488355328 := by omega
  have hn0 : (0 : Int) ≤ (n : Int) := by omega
  go_enter Tryz.func88, Tryz.ntmps88
  go_wp2
  go_ret
  exact ⟨(show Ending.returned (.int .i64 ((20 + (n : Int) + 63 - 1) / 63)) = _ from by rw [E1.out]), rfl⟩
theorem Sectors_any (h : Dsk w base own gd s S P) : Calls Tryz.prog 111 #[.pointer (some ⟨gd, 0, none⟩)] w fun e w' => e = .returned (.int .i64 (s.secs.length : Int)) ∧ w' = w := by
  obtain ⟨A, c, rfl⟩ := h.formS
  have f0 := h.field (i := 0) rfl
  go_enter Tryz.func111, Tryz.ntmps111
  go_wp2
  go_ret
  exact ⟨rfl, rfl⟩
theorem area_any (h : LGx w base own od gd gl s S P p rv recs vs) : Calls Tryz.prog 89 #[.pointer (some ⟨gl, 0, none⟩)] w fun e w' => e = .returned (.int .i64 (s.secs.length / 2 : Nat)) ∧ w' = w := by
  have f0 := h.cell (i := 0) rfl
  have hm := h.dsk.ok.max
  have HD := Lib.hid h.dsk
  obtain ⟨n, hn⟩ : ∃ n, n = s.secs.length := ⟨_, rfl⟩
  have hnI : (n : Int) ≤ 65536 := by omega
  have hn0 : (0 : Int) ≤ (n : Int) := by omega
  have HN := Lib.hid hn
  clear hm hn h
  go_enter Tryz.func89, Tryz.ntmps89
  go_wp2_with (go_at_call 111; go_must (refine (Sectors_any HD.out).mono ?_; rintro e w' ⟨rfl, rfl⟩; rw [← HN.out]))
  go_ret
  exact ⟨(show Ending.returned (.int .i64 ((n : Int) / 2)) = _ from by rw [← HN.out]; rfl), rfl⟩
theorem base_any (h : LGx w base own od gd gl s S P p rv recs vs) (gen : Nat) (hgen : gen < 2) : Calls Tryz.prog 113 #[.pointer (some ⟨gl, 0, none⟩), .int .u64 (gen : Int)] w fun e w' => e = .returned (.int .i64 ((gen * (s.secs.length / 2) : Nat) : Int)) ∧ w' = w := by
  have hm := h.dsk.ok.max
  have HL := Lib.hid h
  obtain ⟨n, hn⟩ : ∃ n, n = s.secs.length / 2 := ⟨_, rfl⟩
  have hnI : (n : Int) ≤ 65536 := by omega
  have hn0 : (0 : Int) ≤ (n : Int) := by omega
  have HN := Lib.hid hn
  have hg : (gen : Int) % 2 = (gen : Int) := by omega
  have hg0 : (0 : Int) ≤ (gen : Int) := by omega
  have hg1 : (gen : Int) < 2 := by omega
  have hgm : 0 ≤ (gen : Int) * (n : Int) ∧ (gen : Int) * (n : Int) ≤ 131072 := by
    have h1 : (gen : Int) * (n : Int) = ((gen * n : Nat) : Int) := by simp
    have h2 : gen * n ≤ 2 * 65536 := Nat.mul_le_mul (by omega) (by omega)
    rw [h1]; omega
  obtain ⟨hgm0, hgm1⟩ := hgm
  clear hm hn h
  go_enter Tryz.func113, Tryz.ntmps113
  go_wp2_with (go_at_call 89; go_must (refine (area_any HL.out).mono ?_; rintro e w' ⟨rfl, rfl⟩; rw [← HN.out]))
  go_ret
  exact ⟨(show Ending.returned (.int .i64 ((gen : Int) * (n : Int))) = _ from by rw [← HN.out, Int.natCast_mul]), rfl⟩
theorem slAll16 (g o : Nat) (w : World) : (Instr.sliceAt 188 (.pointer (some ⟨g, o, none⟩)) none none none).run Tryz.prog w = .ok (.slice (some ⟨g, o, none⟩) 16 16) w := by
  have e64 : Tryz.prog.arrayLen 188 = 16 := by kernel_rfl
  have h1 := run_sliceAt_array_all (P := Tryz.prog) w 188 ⟨g, o, none⟩ (by kernel_rfl)
  have hs : (sizeOf (Tryz.prog.elem 188)).run Tryz.prog w = .ok 1 w := by kernel_rfl
  rw [h1, hs, Result.andThen_ok, e64]
  unfold slicedAt
  rw [if_neg (by omega), add_none, Nat.zero_mul, Nat.add_zero]
def SumTPost (K : List Int) (number : Nat) (rec : List UInt8) (w : World) (e : Ending) (w' : World) : Prop := ∃ g, e = .returned (.slice (some ⟨g, 0, none⟩) 16 32) ∧ w.heap.size ≤ g ∧ Reads w' w'.heap.size 1 (some ⟨g, 0, none⟩) 16 (bvs (tagF K number rec)) ∧ Below w.heap.size w w'
theorem reads_bel {w w' : World} {n : Nat} {A : Option Addr} {xs : List Value} (h : Reads w w.heap.size 1 A n xs) (hb : Below w.heap.size w w') : Reads w' w'.heap.size 1 A n xs := (h.below hb).more hb.size
set_option maxRecDepth 100000 in
set_option maxHeartbeats 1000000 in
theorem HWrite_zero (A : Option Addr) (c g : Nat) (K : List Int) (m : List UInt8) (w : World) (hh : Hs w g K m) :
    Calls Tryz.prog 97 #[.pointer (some ⟨g, 0, none⟩), .slice A 0 c] w (HWritePost g K m w) := by
  have HH := Lib.hid hh
  clear hh
  go_enter Tryz.func97, Tryz.ntmps97
  go_wp2
  go_loopw [1] (fun s wr => s = .slice A 0 c ∧ w = wr) (fun _ _ => 0)
  case atStart => exact ⟨rfl, rfl⟩
  case round =>
    obtain ⟨rfl, rfl⟩ := hrel
    go_wp2
    go_end0
    exact ⟨rfl, Frm.refl _ _, HH.out⟩
theorem HWrite2_any (A : Option Addr) (n c g : Nat) (K : List Int) (m b : List UInt8) (w : World) (hh : Hs w g K m) (hkt : KT w K) (hg0 : g ≠ 1) (hr : Reads w w.heap.size 1 A n (bvs b)) (hc : n ≤ c) (hA : 0 < n → ∀ ad, A = some ad → ad.block ≠ g) (hl : m.length + b.length ≤ 4611686018427387904) :
    Calls Tryz.prog 97 #[.pointer (some ⟨g, 0, none⟩), .slice A n c] w (HWritePost g K (m ++ b) w) := by
  rcases Nat.eq_zero_or_pos n with h0 | h0
  · subst h0
    have hb : b = [] := by
      have := hr.1
      rw [bvs_length] at this
      exact List.eq_nil_of_length_eq_zero (by omega)
    rw [hb, List.append_nil]
    exact HWrite_zero A c g K m w hh
  · exact HWrite_any A n c g K m b w hh hkt hg0 hr hc (hA h0) hl
/-- A Hash under way, made since w0. -/
def HW (w0 w : World) (g : Nat) (K : List Int) (m : List UInt8) : Prop := Hs w g K m ∧ Below w0.heap.size w0 w ∧ w0.heap.size ≤ g ∧ KT w K ∧ g ≠ 1
def HWPost (w0 : World) (g : Nat) (K : List Int) (m : List UInt8) (w : World) (e : Ending) (w' : World) : Prop := e = .returned (.tuple #[]) ∧ HW w0 w' g K m ∧ Frm [g] w w'
theorem HW_write {w0 w : World} {g : Nat} {K : List Int} {m : List UInt8} (h : HW w0 w g K m) (A : Option Addr) (n c : Nat) (b : List UInt8) (hr : Reads w w.heap.size 1 A n (bvs b)) (hc : n ≤ c) (hA : 0 < n → ∀ ad, A = some ad → ad.block ≠ g) (hl : m.length + b.length ≤ 4611686018427387904) :
    Calls Tryz.prog 97 #[.pointer (some ⟨g, 0, none⟩), .slice A n c] w (HWPost w0 g K (m ++ b) w) :=
  (HWrite2_any A n c g K m b w h.1 h.2.2.2.1 h.2.2.2.2 hr hc hA hl).mono fun _ _ h' => ⟨h'.1, ⟨h'.2.2, h.2.1.trans (h'.2.1.below h.2.1.size (by have := h.2.2.1; simp; exact this)), h.2.2.1, h.2.2.2.1.frm h'.2.1 (by have := h.2.2.2.2; simp; omega), h.2.2.2.2⟩, h'.2.1⟩
theorem HW.below {w0 w w' : World} {g : Nat} {K : List Int} {m : List UInt8} (h : HW w0 w g K m) (hb : Below w.heap.size w w') : HW w0 w' g K m := by
  obtain ⟨⟨buf, h1, h2, h3⟩, h4, h5, h6, h7⟩ := h
  exact ⟨⟨buf, h1, h2, heap_below h3 hb⟩, h4.trans (hb.mono h4.size), h5, h6.bel hb, h7⟩
set_option maxRecDepth 100000 in
set_option maxHeartbeats 2000000 in
theorem sum_any (K : List Int) (number : Nat) (hnum : number < 4294967296) (A : Option Addr) (n c : Nat) (rec : List UInt8) (w : World) (hr : Reads w w.heap.size 1 A n (bvs rec)) (hA : 0 < n → ∀ ad, A = some ad → ad.block < w.heap.size) (hc : n ≤ c) (hn : n ≤ 1000000) (hkt : KT w K) :
    Calls Tryz.prog 119 #[.agg (bvs zero16).toArray, .int .u64 (number : Int), .slice A n c] w (SumTPost K number rec w) := by
  have hl : rec.length = n := by have := hr.1; rw [bvs_length] at this; omega
  have HL := Lib.hid hl
  have HR := Lib.hid hr
  have HA := Lib.hid hA
  have HK := Lib.hid hkt
  have HC := Lib.hid hc
  have HNN := Lib.hid hn
  have hpos : Hid (1 < w.heap.size) := hkt.1
  obtain ⟨zs, hzs⟩ : ∃ zs : Array Value, zs = (bvs zero16).toArray := ⟨_, rfl⟩
  rw [← hzs]
  have HZ := Lib.hid hzs
  have hz1 : zs.size = 16 := by rw [hzs]; rfl
  have HNM := Lib.hid hnum
  have hsl := slAll16
  obtain ⟨ys, hys⟩ : ∃ zs : Array Value, zs = (bvs (List.replicate 32 0)).toArray := ⟨_, rfl⟩
  have hz32 : ∀ w, (zeroValue 31).run Tryz.prog w = .ok (.agg (bvs (List.replicate 32 0)).toArray) w := fun w => by kernel_rfl
  rw [← hys] at hz32
  have HYZ : Hid (ys.size = 32) := by show _ = _; rw [hys]; rfl
  have T0 : Hid True := trivial
  clear hl hr hA hkt hc hn hzs hnum hys
  go_enter Tryz.func119, Tryz.ntmps119
  have B0 : Hid (Below w.heap.size w (w.alloc (.cells zs 188))) := by show Below _ _ _; exact (Below.refl _ _).alloc (Nat.le_refl _) _
  have R0 : Hid ((w.alloc (.cells zs 188)).heap[w.heap.size]? = some (.cells zs 188 (0, 0))) := heap_alloc_new w _
  go_wp2_with (first
    | (go_at_call 96; have hx_ := T0; go_must (refine (HNew_any K _).mono ?_; rintro e w1 ⟨g, rfl, hg, hb, hh⟩; have B1 := Lib.hid (B0.out.trans (hb.mono B0.out.size)); have R1 := Lib.hid (heap_below R0.out hb); have HG : Hid (w.heap.size < g) := (by show _ < _; simp at hg; omega); have H1 : Hid (HW w w1 g K []) := ⟨hh, B1.out, Nat.le_of_lt HG.out, HK.out.bel B1.out, (by have := HG.out; have := hpos.out; omega)⟩; have T1 := T0; clear hg hb hh T0 hx_))
    | (go_at_call 97; have hx_ := T1; go_must (refine (HW_write H1.out (some ⟨w.heap.size, 0, none⟩) 16 16 zero16 (by have h_ := R1.out; rw [HZ.out] at h_; exact reads_block h_ rfl) (Nat.le_refl _) (by have := HG.out; intro _ ad e_; cases e_; show w.heap.size ≠ g; omega) (by simp [zero16])).mono ?_; rintro e w2 ⟨rfl, h2, hf⟩; have H2 := Lib.hid h2; have T2 := T1; clear T1 hx_ h2 hf))
    | (go_at_call 29; go_must (refine (Num_any number (by have := HNM.out; omega) _).mono ?_; rintro e w3 ⟨v, rfl, hv, hb⟩; obtain ⟨A8, c8, rfl, hc8, hr8⟩ := own8_form hv; have HV := Lib.hid (And.intro (own8_lt hv) (And.intro hc8 hr8)); have H3 := Lib.hid (H2.out.below hb); have G3 := Lib.hid (Nat.lt_of_lt_of_le H2.out.1.lt hb.size); have G2 := Lib.hid H2.out.1.lt; clear hv hb hc8 hr8))
    | (go_at_call 97; have hx_ := T2; go_must (refine (HW_write H3.out _ _ _ (be8 number) HV.out.2.2 HV.out.2.1 (by have h_ := HV.out.1; have h2_ := G2.out; intro _ ad e_; subst e_; have h3_ := h_ ad.block rfl; omega) (by simp [zero16, be8_length])).mono ?_; rintro e w4 ⟨rfl, h4, hf⟩; have H4 := Lib.hid h4; have T3 := T2; clear T2 hx_ h4 hf))
    | (go_at_call 97; have hx_ := T3; go_must (refine (HW_write H4.out A n c rec (reads_bel HR.out H4.out.2.1) HC.out (by have h_ := HA.out; have h2_ := HG.out; intro h0_ ad e_; have h3_ := h_ h0_ ad e_; omega) (by have h_ := HL.out; have h2_ := HNN.out; simp [zero16, be8_length]; omega)).mono ?_; rintro e w5 ⟨rfl, h5, hf⟩; have H5 := Lib.hid h5; have T4 := T3; clear T3 hx_ h5 hf))
    | (go_at_call 98; have hx_ := T4; go_must (refine (Sum_any g K _ w5 H5.out.1 H5.out.2.2.2.1 (by have h_ := HL.out; have h2_ := HNN.out; simp [zero16, be8_length]; omega)).mono ?_; rintro e w6 ⟨rfl, hb⟩; have H6 := Lib.hid (H5.out.2.1.trans (hb.mono H5.out.2.1.size)); obtain ⟨OUT, hOUT⟩ : ∃ O, O = (bvs (sumF K (zero16 ++ be8 number ++ rec))).toArray := ⟨_, rfl⟩; rw [List.nil_append, ← hOUT]; have HOZ : Hid (OUT.size = 32) := (by show _ = _; rw [hOUT]; simp [bvs_length, sumF_len]); have HO1 : Hid (OUT.all (·.oneCell') = true) := (by show _ = _; rw [hOUT]; exact all_oneCell_toArray (bvs_one _)); have HOUT := Lib.hid hOUT; clear hOUT hb T4 hx_))
    | (refine wpList_store_row rfl _ _ _ rfl w6.heap.size OUT rfl rfl 31 ys (by exact heap_alloc_new w6 _) (by rw [HOZ.out]; kernel_rfl) (by rw [HYZ.out, HOZ.out]) HO1.out ?_))
  go_ret
  have hrow := heap_setRow (cs := OUT) (heap_alloc_new w6 (.cells ys 31))
  have hfr := (Frm.setRow (w6.alloc (.cells ys 31)) w6.heap.size OUT)
  refine ⟨w6.heap.size, rfl, H6.out.size, ?_, H6.out.trans ((((Below.refl _ w6).alloc (Nat.le_refl _) _).trans (hfr.1.below (by simp) (by simp))).mono H6.out.size)⟩
  refine ⟨by rw [bvs_length, tagF_len], fun _ => ⟨_, rfl, lt_of_heap hrow, fun j u hu => ?_⟩⟩
  rw [add_none, Nat.zero_add, cell_of_row _ w6.heap.size j _ _ _ hrow, HOUT.out]
  have hj : j < 16 := by have := (List.getElem?_eq_some_iff.1 hu).1; rw [bvs_length, tagF_len] at this; exact this
  unfold tagF at hu
  rw [List.getElem?_toArray]
  simp only [bvs, List.getElem?_map, List.getElem?_take, if_pos hj] at hu ⊢
  exact hu
end Go.Proofs.YtbcpmnnlhdgbhaaGreatDoor

namespace Go.Proofs.YtbcpmnnlhdgbhaaGreatDoor
open Go.RowKit
theorem chunks_cons {n : Nat} {k : UInt8} {b : List UInt8} (hb : b ≠ []) (hn : b.length ≤ n) : chunks n k b = (k :: (b.take 63 ++ List.replicate (63 - b.length) 0)) :: chunks (n - 1) 2 (b.drop 63) := by
  cases n with
  | zero => exact absurd (List.eq_nil_of_length_eq_zero (by omega)) hb
  | succ n => rw [chunks, if_neg hb]; rfl
theorem placeL_snoc : ∀ (l : List (List UInt8)) (n : Nat) (x : List UInt8), placeL n (l ++ [x]) = placeL n l ++ [(n + l.length, x)]
  | [], _, _ => rfl
  | y :: l, n, x => by
    rw [List.cons_append, placeL, placeL_snoc l (n + 1) x, placeL, List.cons_append, List.length_cons, show n + 1 + l.length = n + (l.length + 1) from by omega]
def DS.fu (s : DS) (pd : List (Nat × List UInt8)) (f : Int) : DS := { s with pend := s.pend ++ pd, fuse := f }
theorem fu_write {s : DS} {pd : List (Nat × List UInt8)} {f : Int} {n : Nat} {d : List UInt8} (hd : s.down = false) (hl : s.lit = false) (hn : n < s.secs.length) : (s.fu pd f).write (n : Int) d = if s.full = true then (5, s.fu pd (wrap64 (f - 1))) else (0, s.fu (pd ++ [(n, d)]) (wrap64 (f - 1))) := by
  have ho : (s.fu pd f).op = (true, s.fu pd (wrap64 (f - 1))) := by
    unfold DS.op DS.fu
    simp [hd, hl]
  unfold DS.write
  rw [if_pos (show (0 : Int) ≤ (n : Int) ∧ (n : Int) < ((s.fu pd f).secs.length : Int) from ⟨by omega, by show (n : Int) < (s.secs.length : Int); omega⟩), ho]
  rw [if_pos rfl]
  by_cases hf : s.full = true
  · rw [if_pos hf, if_pos (show (s.fu pd (wrap64 (f - 1))).full = true from hf)]
  · rw [if_neg hf, if_neg (show ¬ (s.fu pd (wrap64 (f - 1))).full = true from hf)]
    simp [DS.fu]
def PutPost (base : Nat) (own : Nat → Prop) (gd gl : Nat) (s : DS) (p : Int) (recs : List (List UInt8)) (at_ : Nat) (fr : List (List UInt8)) (w : World) (e : Ending) (w' : World) : Prop :=
  ∃ f, (s.full = true ∧ e = .returned (.int .i64 5) ∧ LAfter base own gd gl (s.fu [] f) p recs w w') ∨ (s.full = false ∧ e = .returned (.int .i64 0) ∧ LAfter base own gd gl (s.fu (placeL at_ fr) f) p recs w w')
theorem zero64a : ∀ w, (zeroValue 32).run Tryz.prog w = .ok (.agg (bvs (List.replicate 64 0)).toArray) w := fun w => by kernel_rfl
theorem build64 (x : Int) : Tryz.prog.built 32 [(0, .int .u8 x)] = some (Value.int .u8 x :: bvs (List.replicate 63 0)).toArray := by kernel_rfl
theorem slL1 (g : Nat) (w : World) : (Instr.sliceAt 32 (.pointer (some ⟨g, 0, none⟩)) (some (.int .i64 1)) none none).run Tryz.prog w = .ok (.slice (some ⟨g, 1, none⟩) 63 63) w := by
  have h := sl64 g 0 1 (by omega) w
  exact h
theorem base0_any {w : World} {base gd gl : Nat} {own od : Nat → Prop} {s : DS} {S P rv : Value} {p : Int} {recs : List (List UInt8)} {vs : List Value} (h : LGx w base own od gd gl s S P p rv recs vs) : Calls Tryz.prog 113 #[.pointer (some ⟨gl, 0, none⟩), .int .u64 0] w fun e w' => e = .returned (.int .i64 0) ∧ w' = w := by
  refine (base_any h 0 (by omega)).mono ?_
  rintro e w' ⟨rfl, rfl⟩
  rw [Nat.zero_mul]
  exact ⟨rfl, rfl⟩
/-- What holds between two sectors. -/
structure PutI (w : World) (base : Nat) (own : Nat → Prop) (gd gl : Nat) (s : DS) (p : Int) (recs : List (List UInt8)) (at_ : Nat) (FR : List (List UInt8)) (A : Option Addr) (n c : Nat) (a' : Nat) (kI : Int) (wr : World) : Prop where
  ex : ∃ (x : List UInt8) (done : List (List UInt8)) (N : Nat) (k : UInt8) (f : Int) (own' : Nat → Prop), a' = at_ + done.length ∧ kI = (k.toNat : Int) ∧ FR = done ++ chunks N k x ∧ x.length ≤ N ∧ (s.full = true → done = []) ∧ Reads wr wr.heap.size 1 A n (bvs x) ∧ n ≤ c ∧
    LG wr base own' gd gl (s.fu (placeL at_ done) f) p recs ∧ Turns own w wr ∧ (∀ k, own' k → own k ∨ w.heap.size ≤ k) ∧ (∀ ad, A = some ad → ¬ own' ad.block)
theorem min63 {x : List UInt8} {n : Nat} (h : x.length = n) (k : UInt8) : (((Value.int .u8 (k.toNat : Int) :: bvs (List.replicate 63 0)).toArray).toList.take 1 ++ bvs (x.take 63) ++ ((Value.int .u8 (k.toNat : Int) :: bvs (List.replicate 63 0)).toArray).toList.drop (1 + Nat.min n 63)).toArray = (bvs (k :: (x.take 63 ++ List.replicate (63 - x.length) 0))).toArray := by
  congr 1
  have e : 1 + Nat.min n 63 = Nat.min n 63 + 1 := by omega
  rw [List.toList_toArray, e, List.drop_succ_cons, show List.take 1 (Value.int .u8 (k.toNat : Int) :: bvs (List.replicate 63 0)) = [bv k] from rfl]
  have e2 : 63 - Nat.min n 63 = 63 - n := by rcases Nat.lt_or_ge n 63 with h' | h' <;> simp only [Nat.min_def] <;> split <;> omega
  simp only [bvs, List.map_cons, List.map_append, List.map_replicate, List.drop_replicate, e2, h, List.cons_append, List.nil_append]
set_option maxRecDepth 100000 in
set_option maxHeartbeats 2000000 in
theorem put_any {w : World} {base gd gl : Nat} {own : Nat → Prop} {s : DS} {p : Int} {recs : List (List UInt8)} (h : LG w base own gd gl s p recs) (hdn : s.down = false) (hlt : s.lit = false) (hpd : s.pend.length ≤ 2000) (K : List Int) (number at_ : Nat) (hnum : number < 4294967296)
    (A : Option Addr) (n c : Nat) (rec : List UInt8) (hr : Reads w w.heap.size 1 A n (bvs rec)) (hA : 0 < n → ∀ ad, A = some ad → ad.block < w.heap.size ∧ ¬ own ad.block) (hc : n ≤ c) (hn : n ≤ 65536) (hat : at_ + secsN n ≤ s.secs.length) (hkt : KT w K) :
    Calls Tryz.prog 90 #[.pointer (some ⟨gl, 0, none⟩), .int .u64 0, .agg (bvs zero16).toArray, .int .i64 (at_ : Int), .int .u64 (number : Int), .slice A n c] w (PutPost base own gd gl s p recs at_ (frameS K number rec) w) := by
  have hl : rec.length = n := by have := hr.1; rw [bvs_length] at this; omega
  have hc4 : bvs (be4 n) = [.int .u8 ((n : Int) / 16777216), .int .u8 ((n : Int) / 65536), .int .u8 ((n : Int) / 256 % 256), .int .u8 ((n : Int) % 256)] := by
    rw [be4_cells n (by omega), show (n : Int) / 65536 % 256 = (n : Int) / 65536 from by omega]
  have C4 := Lib.hid hc4
  have HL := Lib.hid hl
  have HR := Lib.hid hr
  have HA := Lib.hid hA
  have HK := Lib.hid hkt
  have HC := Lib.hid hc
  have HNN := Lib.hid hn
  have HH := Lib.hid h
  have HAT := Lib.hid hat
  have HNM := Lib.hid hnum
  have nI : (n : Int) ≤ 65536 := by omega
  have n0 : (0 : Int) ≤ (n : Int) := by omega
  obtain ⟨zs, hzs⟩ : ∃ zs : Array Value, zs = (bvs zero16).toArray := ⟨_, rfl⟩
  rw [← hzs]
  have HZ := Lib.hid hzs
  have HZS : Hid (zs.size = 16) := by show _ = _; rw [hzs]; rfl
  have T0 : Hid True := trivial
  clear hc4 hl hr hA hkt hc hn h hat hnum hzs
  go_enter Tryz.func90, Tryz.ntmps90
  obtain ⟨w1, hw1⟩ : ∃ w1, (w.alloc (.cells zs 188)).alloc (.cells #[.int .u8 ((n : Int) / 16777216), .int .u8 ((n : Int) / 65536), .int .u8 ((n : Int) / 256 % 256), .int .u8 ((n : Int) % 256)] 5) = w1 := ⟨_, rfl⟩
  have B1 : Hid (Below w.heap.size w w1) := by show Below _ _ _; rw [← hw1]; exact ((Below.refl _ _).alloc (Nat.le_refl _) _).alloc (by simp) _
  have R1 : Hid (w1.heap[w.heap.size]? = some (.cells zs 188 (0, 0))) := by show _ = _; rw [← hw1, Below.heap_alloc _ _ _ (by simp)]; exact heap_alloc_new w _
  have O1 : Hid (Own8 w1 w.heap.size (.slice (some ⟨w.heap.size + 1, 0, none⟩) 4 4) (be4 n)) := by
    show Own8 _ _ _ _
    have h_ := own8_new (w.alloc (.cells zs 188)) w.heap.size (by simp) (be4 n) 4 rfl (by simp [maxLen])
    rw [C4.out, show (w.alloc (.cells zs 188)).heap.size = w.heap.size + 1 from by simp] at h_
    rw [← hw1]
    exact h_
  have HW1 := Lib.hid hw1
  clear hw1
  go_wp2_with (first
    | (have hx_ := T0; refine wpList_load_arr rfl _ _ rfl w.heap.size 0 rfl zs _ (by rw [HW1.out]; exact range_row R1.out) Tryz.underlying188 rfl (by rw [HZS.out]; kernel_rfl) ?_; rw [HW1.out]; have T1 := T0; clear hx_ T0)
    | (go_at_call 119; have hx_ := T1; go_must (rw [HZ.out]; refine (sum_any K number HNM.out A n c rec _ (reads_bel HR.out B1.out) (fun h0_ ad e_ => Nat.lt_of_lt_of_le (HA.out h0_ ad e_).1 B1.out.size) HC.out (by have := HNN.out; omega) (HK.out.bel B1.out)).mono ?_; rintro e w2 ⟨g2, rfl, hg2, hr2, hb2⟩; have B2 := Lib.hid (B1.out.trans (hb2.mono B1.out.size)); have O2 := Lib.hid (own8_below O1.out hb2); have R2 := Lib.hid hr2; have T2 := T1; clear T1 hx_ hg2 hr2 hb2))
    | (have hx_ := T2; refine app8 rfl rfl rfl rfl O2.out (news := tagF K number rec) R2.out (by rw [show (be4 n).length = 4 from rfl]; omega) B2.out.size ?_; intro v3 w3 hO3 hg3 _hv; have B3 := Lib.hid (below_own8 B2.out O2.out hg3); have T3 := T2; clear T2 hx_; obtain ⟨A3, c3, rfl, hc3, hr3⟩ := own8_form' hO3 (n := 20) (by rw [List.length_append, tagF_len]; rfl); have O3 := Lib.hid hO3; clear hO3 hg3 hc3 hr3)
    | (have hx_ := T3; refine app8 rfl rfl rfl rfl O3.out (news := rec) (reads_bel HR.out B3.out) (by rw [List.length_append, tagF_len]; have h_ := HNN.out; rw [show (be4 n).length = 4 from rfl]; omega) B3.out.size ?_; intro v4 w4 hO4 hg4 _hv; have B4 := Lib.hid (below_own8 B3.out O3.out hg4); have T4 := T3; clear T3 hx_; have O4 : Hid (Own8 w4 w.heap.size v4 (frameB K number rec)) := (by show Own8 _ _ _ _; unfold frameB; rw [HL.out]; exact hO4); clear hO4 hg4; obtain ⟨A4, c4, rfl, hc4, hr4⟩ := own8_form' O4.out (n := n + 20) (by rw [frameB_len, HL.out]); have R4 := Lib.hid (And.intro hc4 hr4); clear hc4 hr4))
  have FL : Hid (frameS K number rec ≠ []) := by
    show _ ≠ _
    intro e
    have h_ := frameS_len K number rec
    rw [e] at h_
    unfold secsN at h_
    simp at h_
    omega
  obtain ⟨FR, hFR⟩ : ∃ FR, FR = frameS K number rec := ⟨_, rfl⟩
  have HS0 : Hid (PutI w base own gd gl s p recs at_ FR A4 (n + 20) c4 at_ 1 w4) := by
    obtain ⟨od, S, P, rv, vs, hx⟩ := HH.out
    refine ⟨frameB K number rec, [], rec.length + 20, 1, s.fuse, own, rfl, rfl, hFR, by rw [frameB_len]; omega, fun _ => rfl, R4.out.2, R4.out.1, ?_, Turns.of_below B4.out, fun _ h => .inl h, ?_⟩
    · have e : s.fu (placeL at_ []) s.fuse = s := by simp [DS.fu, placeL]
      rw [e]
      exact ⟨od, S, P, rv, vs, hx.below B4.out⟩
    · intro ad e hk
      have h1 := (own8_lt O4.out) ad.block (by rw [e]; rfl)
      have h2 := (hx.bnd _ hk).2
      omega
  have HFL : Hid (FR.length = secsN n) := by show _ = _; rw [hFR, frameS_len, HL.out]
  have HF64 : Hid (∀ x ∈ FR, x.length = 64) := by show ∀ _, _; rw [hFR]; exact frameS_64 K number rec
  have HFR0 : Hid (FR ≠ []) := by show _ ≠ _; rw [hFR]; exact FL.out
  have HFE := Lib.hid hFR
  clear hFR FL
  obtain ⟨CZ, hCZ⟩ : ∃ zs : Array Value, zs = (bvs (List.replicate 64 0)).toArray := ⟨_, rfl⟩
  have hz64 := zero64a
  rw [← hCZ] at hz64
  have HCZ : Hid (CZ.size = 64) := by show _ = _; rw [hCZ]; rfl
  clear hCZ
  have hsl1 := slL1
  go_wp2
  go_loopw [3, 14, 15] (fun q b kd wr => ∃ (a' : Nat) (A : Option Addr) (n c : Nat) (kI : Int), q = .int .i64 (a' : Int) ∧ b = .slice A n c ∧ kd = .int .u8 kI ∧ Hid (PutI w base own gd gl s p recs at_ FR A n c a' kI wr)) (fun _ b _ _ => lenV b)
  case atStart => exact ⟨at_, A4, n + 20, c4, 1, rfl, rfl, rfl, HS0.out⟩
  case round =>
    obtain ⟨a', A5, n5, c5, kI, rfl, rfl, rfl, hO⟩ := hrel
    obtain ⟨x, done, N, k, f, own', ha', hkI, hFRc, hxN, hfd, hrx, hnc, hLG, hTu, hOw, hnA⟩ := hO.out.ex
    have hxl : x.length = n5 := by have := hrx.1; rw [bvs_length] at this; omega
    by_cases h0 : n5 = 0
    · have hx : x = [] := List.eq_nil_of_length_eq_zero (by omega)
      have hF0 : chunks N k x = [] := by rw [hx]; cases N <;> simp [chunks]
      rw [hF0, List.append_nil] at hFRc
      have hnf : s.full = false := by
        cases hf : s.full with
        | false => rfl
        | true => exact absurd (hFRc.trans (hfd hf)) HFR0.out
      have FIN : Hid (PutPost base own gd gl s p recs at_ FR w (.returned (.int .i64 0)) wr) := ⟨f, .inr ⟨hnf, rfl, own', by rw [hFRc]; exact hLG, hTu, hOw⟩⟩
      subst h0
      clear hO hkI ha' hFRc hxN hfd hrx hnc hLG hTu hOw hnA hxl hx hF0 hnf
      go_wp2
      go_ret
      have h_ := FIN.out
      rw [HFE.out] at h_
      exact h_
    · have hn0 : (0 : Int) < (n5 : Int) := by omega
      have hx0 : x ≠ [] := fun e => h0 (by rw [← hxl, e]; rfl)
      obtain ⟨CS, hCS⟩ : ∃ CS : Array Value, CS = (Value.int .u8 kI :: bvs (List.replicate 63 0)).toArray := ⟨_, rfl⟩
      have hbu : Hid (Tryz.prog.built 32 [(0, .int .u8 kI)] = some CS) := by show _ = _; rw [hCS]; exact build64 kI
      have hcs : Hid (CS.size = 64) := by show _ = _; rw [hCS]; rfl
      have hc1 : Hid (CS.all (·.oneCell') = true) := by
        show _ = _
        rw [hCS]
        refine all_oneCell_toArray fun u hu => ?_
        rcases List.mem_cons.1 hu with rfl | hu
        · rfl
        · exact bvs_one _ u hu
      obtain ⟨w5, hw5⟩ : ∃ w5, (wr.alloc (.cells CZ 32)).setRow wr.heap.size CS = w5 := ⟨_, rfl⟩
      have hf5 := Frm.setRow (wr.alloc (.cells CZ 32)) wr.heap.size CS
      have hr5 := heap_setRow (cs := CS) (heap_alloc_new wr (.cells CZ 32))
      have hb5 : Below wr.heap.size wr w5 := by rw [← hw5]; exact ((Below.refl _ wr).alloc (Nat.le_refl _) _).trans (hf5.1.below (by simp) (by simp))
      rw [hw5] at hf5 hr5
      obtain ⟨w6, hcp, hw6, hfr, hsz⟩ := copy_row (off := 1) (n := 63) (c := 63) (c2 := c5) hr5 (reads_bel hrx hb5) hxl (by rw [hcs.out]; omega)
      rw [hCS, hkI, min63 hxl k] at hw6
      obtain ⟨D, hD⟩ : ∃ D : List UInt8, D = k :: (x.take 63 ++ List.replicate (63 - x.length) 0) := ⟨_, rfl⟩
      have hD64 : D.length = 64 := by rw [hD]; simp; omega
      rw [← hD] at hw6
      have hb6 : Below wr.heap.size wr w6 := hb5.trans (hfr.below hb5.size (by simp))
      obtain ⟨k5, hk5⟩ : ∃ k5, k5 = Nat.min n5 63 := ⟨_, rfl⟩
      rw [← hk5] at hcp
      have hkn : k5 ≤ n5 := by rw [hk5]; exact Nat.min_le_left _ _
      have hkp : 0 < k5 := by
        rcases Nat.lt_or_ge n5 63 with h_ | h_
        · rw [hk5, show Nat.min n5 63 = n5 from Nat.min_eq_left (Nat.le_of_lt h_)]; omega
        · rw [hk5, show Nat.min n5 63 = 63 from Nat.min_eq_right h_]; omega
      have hxd : x.drop 63 = x.drop k5 := by
        rcases Nat.lt_or_ge n5 63 with h_ | h_
        · rw [hk5, show Nat.min n5 63 = n5 from Nat.min_eq_left (Nat.le_of_lt h_), List.drop_of_length_le (by omega), List.drop_of_length_le (by omega)]
        · rw [hk5, show Nat.min n5 63 = 63 from Nat.min_eq_right h_]
      obtain ⟨A2, hA2⟩ : ∃ A2, A2 = (if c5 = k5 then A5 else A5.map (·.add (k5 * 1))) := ⟨_, rfl⟩
      have hrs := slK8 (A := A5) (c := c5) hkn
      rw [← hA2] at hrs
      have hch := chunks_cons (k := k) hx0 hxN
      rw [← hD, hxd] at hch
      obtain ⟨od, S, P, rv, vs, hx⟩ := hLG
      have hx6 := (hx.below hb6)
      have hx6d : LGx w6.drew base own' od gd gl (s.fu (placeL at_ done) f) S P p rv recs vs := hx6.below (below_drew (Below.refl _ _))
      have HX := Lib.hid hx6d
      have e0 : w6.drew.cell? ⟨gl, 0, none⟩ = some (.pointer (some ⟨gd, 0, none⟩)) := hx6d.cell (i := 0) rfl
      have HR6 : Hid (w6.drew.heap[wr.heap.size]? = some (.cells (bvs D).toArray 32 (0, 0))) := hw6
      have hin : a' < s.secs.length := by
        have h1 := HFL.out
        rw [hFRc, List.length_append, hch, List.length_cons] at h1
        have h2 := HAT.out
        omega
      have HWr := Lib.hid (fu_write (pd := placeL at_ done) (f := f) (d := D) hdn hlt hin)
      have HA' : Hid ((a' : Int) ≤ 65536) := by show _ ≤ _; have := hx.dsk.ok.max; have : s.secs.length ≤ 65536 := this; omega
      have ha0 : (0 : Int) ≤ (a' : Int) := by omega
      have ha1 := HA'.out
      obtain ⟨DA, hDA⟩ : ∃ DA : Array Value, DA = (bvs D).toArray := ⟨_, rfl⟩
      rw [← hDA] at HR6
      have hDZ : Hid (DA.size = 64) := by show _ = _; rw [hDA]; simp [bvs_length, hD64]
      have HDA := Lib.hid hDA
      have HD := Lib.hid hD64
      have NX : Hid (Reads wr wr.heap.size 1 A2 (n5 - k5) (bvs (x.drop k5)) ∧ n5 - k5 ≤ c5 - k5 ∧ (∀ ad, A2 = some ad → ¬ own' ad.block ∧ ad.block < wr.heap.size)) := by
        show _ ∧ _
        refine ⟨?_, by omega, ?_⟩
        · have h_ := hrx.cut (k := k5) (cap := c5) hkn hnc
          rw [← hA2, Nat.mul_one] at h_
          simpa [bvs, List.map_drop] using h_
        · intro ad e
          obtain ⟨ad0, e0, hb0, _⟩ := hrx.2 (by omega)
          have : ad.block = ad0.block := by
            rw [hA2] at e
            split at e
            · rw [e0] at e; cases e; rfl
            · rw [e0] at e; cases e; exact block_of_add _ _
          rw [this]
          exact ⟨hnA ad0 e0, hb0⟩
      have HPL : Hid ((s.fu (placeL at_ done) f).pend.length ≤ 1000000) := by
        show _ ≤ _
        show (s.pend ++ placeL at_ done).length ≤ _
        rw [List.length_append, placeL_len]
        have h2 := hx.dsk.ok.max
        have h2' : s.secs.length ≤ 65536 := h2
        omega
      have KEEP := Lib.hid (And.intro hFRc (And.intro hch (And.intro hxN (And.intro hfd (And.intro ha' (And.intro hTu hOw))))))
      have HB6 := Lib.hid hb6
      have hkI5 : (k5 : Int) ≤ (n5 : Int) := by omega
      have HKP := Lib.hid (And.intro hkp hkn)
      clear hO hkI ha' hFRc hxN hfd hrx hnc hTu hOw hnA hxl hx0 hCS hf5 hr5 hb5 hw6 hfr hsz hD hD64 hb6 hk5 hkn hkp hxd hA2 hch hx hx6 hx6d hin hDA h0
      go_wp2_with (first
        | (refine wpList_build_to rfl _ _ rfl [(0, .int .u8 kI)] rfl CS (by with_reducible exact hbu.out) ?_)
        | (refine wpList_store_row rfl _ _ _ rfl wr.heap.size CS rfl rfl 32 CZ (by with_reducible exact heap_alloc_new wr _) (by rw [hcs.out]; kernel_rfl) (by rw [HCZ.out, hcs.out]) hc1.out ?_; rw [hw5]; clear hw5))
      have HB7 : Hid (Below wr.heap.size wr w6.drew) := below_drew HB6.out
      refine wp_quiet_tail 10 (by kernel_rfl) (by kernel_rfl) ?_
      simp only [List.take_succ_cons, List.take_zero, List.drop_succ_cons, List.drop_zero]
      generalize w6.drew = w7 at HX e0 HR6 HB7 ⊢
      repeat (go_big_quiet_step (fail))
      go_big_quiet_want
      go_big_quiet_op
      refine ⟨_, base0_any HX.out, ?_⟩
      go_big_quiet_on
      repeat (go_big_quiet_step (fail))
      go_big_quiet_want
      refine quiet_load_arr _ _ rfl wr.heap.size 0 rfl DA _ (by with_reducible exact range_row HR6.out) Tryz.underlying32 rfl (by rw [hDZ.out]; kernel_rfl) ?_
      go_big_quiet_on
      refine wpQuiet_nil ?_
      have HK1 := KEEP.out.1
      cases hfull : s.full with
      | true =>
        have HE : Hid ((s.fu (placeL at_ done) f).write (a' : Int) D = (5, s.fu (placeL at_ done) (wrap64 (f - 1)))) := by show _ = _; rw [HWr.out, if_pos hfull]
        have hd0 : done = [] := KEEP.out.2.2.2.1 hfull
        clear HK1
        go_wp2_with (go_at_call 120; rw [HDA.out]; go_must (refine (Write_any HX.out.dsk (a' : Int) D HD.out (by have h_ := HPL.out; omega)).mono ?_; rintro e w8 ⟨rfl, hAf⟩; rw [HE.out] at hAf ⊢; have FIN := Lib.hid (HX.out.disk hAf); clear hAf))
        go_ret
        refine ⟨wrap64 (f - 1), .inl ⟨hfull, rfl, ?_⟩⟩
        have h1 := FIN.out
        rw [hd0] at h1
        obtain ⟨own2, hL2, hT2, hO2⟩ := h1
        have hT6 : Turns own w w7 := KEEP.out.2.2.2.2.2.1.then (Turns.of_below (own := own) (w := wr) (w' := w7) (HB7.out.mono (Nat.le_refl _))) (fun _ h => .inl h)
        refine ⟨own2, hL2, hT6.then hT2 KEEP.out.2.2.2.2.2.2, fun k_ hk_ => ?_⟩
        rcases hO2 k_ hk_ with h_ | h_
        · exact KEEP.out.2.2.2.2.2.2 k_ h_
        · exact .inr (Nat.le_trans hT6.size h_)
      | false =>
        have HE : Hid ((s.fu (placeL at_ done) f).write (a' : Int) D = (0, s.fu (placeL at_ done ++ [(a', D)]) (wrap64 (f - 1)))) := by show _ = _; rw [HWr.out, if_neg (by rw [hfull]; simp)]
        clear HK1
        go_wp2_with (go_at_call 120; rw [HDA.out]; go_must (refine (Write_any HX.out.dsk (a' : Int) D HD.out (by have h_ := HPL.out; omega)).mono ?_; rintro e w8 ⟨rfl, hAf⟩; rw [HE.out] at hAf ⊢; have FIN := Lib.hid (HX.out.disk hAf); clear hAf))
        go_roundw
        case rel =>
          obtain ⟨own2, hL2, hT2, hO2⟩ := FIN.out
          have hT6 : Turns own w w7 := KEEP.out.2.2.2.2.2.1.then (Turns.of_below (own := own) (w := wr) (w' := w7) (HB7.out.mono (Nat.le_refl _))) (fun _ h => .inl h)
          refine ⟨a' + 1, A2, n5 - k5, c5 - k5, 2, by go_num, rfl, rfl, ?_⟩
          refine ⟨x.drop k5, done ++ [D], N - 1, 2, wrap64 (f - 1), own2, by rw [KEEP.out.2.2.2.2.1, List.length_append]; rfl, rfl, by rw [KEEP.out.1, KEEP.out.2.1, List.append_assoc]; rfl, by have h_ := KEEP.out.2.2.1; have h2_ := HKP.out; rw [List.length_drop]; omega, (fun h_ => by rw [hfull] at h_; exact absurd h_ (by simp)), ?_, NX.out.2.1, ?_, hT6.then hT2 KEEP.out.2.2.2.2.2.2, ?_, ?_⟩
          · have h_ := reads_bel NX.out.1 HB7.out
            refine ⟨h_.1, fun h0 => ?_⟩
            obtain ⟨ad, e, hb_, hc_⟩ := h_.2 h0
            refine ⟨ad, e, Nat.lt_of_lt_of_le hb_ hT2.size, fun j u hu => ?_⟩
            refine (World.cell?_of_block ?_).trans (hc_ j u hu)
            rw [block_of_add]
            exact hT2.block _ hb_ (NX.out.2.2 ad e).1
          · rw [placeL_snoc, ← KEEP.out.2.2.2.2.1]; exact hL2
          · intro k_ hk_
            rcases hO2 k_ hk_ with h_ | h_
            · exact KEEP.out.2.2.2.2.2.2 k_ h_
            · exact .inr (Nat.le_trans hT6.size h_)
          · intro ad e hk_
            rcases hO2 _ hk_ with h_ | h_
            · exact (NX.out.2.2 ad e).1 h_
            · have h1_ := (NX.out.2.2 ad e).2
              have h2_ := HB7.out.size
              omega
        case measure => simp only [lenV]; have h_ := HKP.out; omega
end Go.Proofs.YtbcpmnnlhdgbhaaGreatDoor

namespace Go.Proofs.YtbcpmnnlhdgbhaaGreatDoor
open Go.RowKit
theorem appLL {ops : Array Oper} {rest : List Oper} {o : Oper} {a : Act} {w wr : World} {Q : Exit → Act → World → Prop} {s x : Operand} {base g c : Nat} {v u : Value} {ls : List (List UInt8)} {l : List UInt8} {vs : List Value}
    (hgd : o.guard = none) (ho : o.op = .call { callee := .builtin .append, args := #[s, x], argTypes := #[100, 100] })
    (hs : a.eval s = v) (hx : a.eval x = .slice (some ⟨g, 0, none⟩) 1 c) (hown : OwnLL wr base v ls vs) (hcell : w.cell? ⟨g, 0, none⟩ = some u) (hb : Below wr.heap.size wr w) (hu : Own8 w wr.heap.size u l)
    (hbytes : (ls.length + 1) * 24 ≤ 140737488355328) (hbase : base ≤ wr.heap.size)
    (h : ∀ v' w', OwnLL w' base v' (ls ++ [l]) (vs ++ [u]) → w.grownBy w' v.ownBlock → (v'.ownBlock = v.ownBlock ∨ v'.ownBlock = some w.heap.size) → wpList Tryz.prog ops Q rest (a.put o.dst v') w') : wpList Tryz.prog ops Q (o :: rest) a w := by
  obtain ⟨i0, hi0, hz0, hz1, hz2⟩ := info_parts slinfo
  have hL0 := hown
  have hL : OwnLL w base v ls vs := lst_at hown (fun k hk => hb.block k (World.ownsRow.lt hown.row k hk).2) (fun x hx k hk => by
    obtain ⟨i, hi, rfl⟩ := List.getElem_of_mem hx
    have hl : i < ls.length := by have := hown.row.1; omega
    obtain ⟨y, hy, hoy, _⟩ := hown.each i hl
    rw [List.getElem?_eq_getElem hi] at hy
    cases hy
    exact hb.block k (own8_lt hoy k hk).2)
  refine wpList_append_any w hgd s x _ ho base 96 i0 _ 1 24 Tryz.underlying100 hi0 hz0 hz1 hz2 rfl (by omega) v ls.length vs hs hL.row (g + 1) (some ⟨g, 0, none⟩) 1 c [u] hx ?_ ?_ (by simp only [maxLen]; omega) (by omega) (Nat.le_trans hbase hb.size) ?_
  · refine ⟨rfl, fun _ => ⟨_, rfl, by simp, fun j y hy => ?_⟩⟩
    match j, hy with
    | 0, hy => simp at hy; subst hy; exact hcell
  · intro y hy
    simp at hy
    subst hy
    exact oneCell_own8 hu
  · intro v' w' h1 h2 h3
    refine h v' w' ⟨?_, ?_, ?_⟩ h2 h3
    · simpa using h1
    · have hvl : vs.length = ls.length := by have := hL.row.1; omega
      -- the new row's block is the old one, or new
      have hblk : ∀ k, v'.ownBlock = some k → (v.ownBlock = some k ∨ k = w.heap.size) := by
        intro k hk
        rcases h3 with h3 | h3
        · exact .inl (h3 ▸ hk)
        · rw [h3] at hk; injection hk with hk; exact .inr hk.symm
      have hvb : ∀ k, v.ownBlock = some k → k < wr.heap.size := fun k hk => (World.ownsRow.lt hL0.row k hk).2
      intro i hi
      by_cases hil : i < ls.length
      · obtain ⟨y, hy, hoy, hne⟩ := hL.each i hil
        refine ⟨y, by rw [List.getElem?_append_left (by omega)]; exact hy, ?_, ?_⟩
        · rw [List.getElem_append_left hil]
          exact own8_keep hoy h2 hne
        · cases hyb : y.ownBlock with
          | none => exact .inl rfl
          | some k =>
            refine .inr fun e => ?_
            rcases hblk k e.symm with h4 | h4
            · rw [hyb, h4] at hne; simp at hne
            · have := (own8_lt hoy k hyb).2; omega
      · have hie : i = ls.length := by simp at hi; omega
        subst hie
        refine ⟨u, by rw [← hvl]; simp, ?_, ?_⟩
        · simp only [List.getElem_append_right (Nat.le_refl _), Nat.sub_self, List.getElem_cons_zero]
          refine own8_base (own8_keep hu h2 ?_) hbase
          cases hub : u.ownBlock with
          | none => exact .inl rfl
          | some k =>
            refine .inr fun e => ?_
            have h5 := (own8_lt hu k hub).1
            have h6 := hvb k e.symm
            omega
        · cases hub : u.ownBlock with
          | none => exact .inl rfl
          | some k =>
            refine .inr fun e => ?_
            have h5 := own8_lt hu k hub
            rcases hblk k e.symm with h4 | h4
            · have := hvb k h4; omega
            · omega
    · have hvl : vs.length = ls.length := by have := hL.row.1; omega
      intro i j y y' hij hy hy'
      by_cases hj : j < vs.length
      · rw [List.getElem?_append_left (by omega)] at hy
        rw [List.getElem?_append_left hj] at hy'
        exact hL.apart i j y y' hij hy hy'
      · have hj' : j = vs.length := by
          have := (List.getElem?_eq_some_iff.1 hy').1
          simp at this; omega
        subst hj'
        rw [List.getElem?_append_left (by omega)] at hy
        have hy'' : y' = u := by simpa using hy'.symm
        subst hy''
        obtain ⟨y0, hy0, hoy, _⟩ := hL0.each i (by omega)
        rw [hy] at hy0
        cases hy0
        cases hyb : y.ownBlock with
        | none => exact .inl rfl
        | some k =>
          refine .inr fun e => ?_
          have h5 := (own8_lt hoy k hyb).2
          have h6 := (own8_lt hu k e.symm).1
          omega


section
variable {w w' : World} {base gd gl : Nat} {own od : Nat → Prop} {s s' : DS} {S P rv : Value} {p : Int} {recs : List (List UInt8)} {vs : List Value}
theorem done_any (h : LGx w base own od gd gl s S P p rv recs vs) (x : Int) (hx : (x == 9) = false) : Calls Tryz.prog 91 #[.pointer (some ⟨gl, 0, none⟩), .int .i64 x] w fun e w' => e = .returned (.int .i64 x) ∧ LGx w' base own od gd gl s S P p rv recs vs ∧ Turns own w w' := by
  have c20 := h.c20
  have hfz := frozen_row h.blk
  have HH := Lib.hid h
  clear h
  go_enter Tryz.func91, Tryz.ntmps91
  go_wp2
  go_ret
  exact ⟨rfl, HH.out.set 20 (.bool false) p rfl⟩
end
end Go.Proofs.YtbcpmnnlhdgbhaaGreatDoor
