/- The texts PE0 PE1 PE6 Z11 PE7 PE8 of this work, merged by wip/merge.py. No conditions. -/
import Derived.Test.YtbcpmnnlhdgbhaaGreatDoorQG10
import Derived.Test.YtbcpmnnlhdgbhaaGreatDoorQG06
import Derived.Test.YtbcpmnnlhdgbhaaGreatDoorQG09
namespace Go.Proofs.YtbcpmnnlhdgbhaaGreatDoor
open Go.RowKit Go.Lib
theorem times_ok (x y : E5) : (timesE x y).ok := carr_ok _
theorem plus_ok (x y : E5) : (plusE x y).ok := carr_ok _
theorem minus_ok (x y : E5) : (minusE x y).ok := carr_ok _
theorem sq_succ : ∀ (n : Nat) (x : E5), sqE (n + 1) x = timesE (sqE n x) (sqE n x)
  | 0, _ => rfl
  | n + 1, x => by
    rw [sqE, sq_succ n, ← sqE]
theorem sq_ok {x : E5} (hx : x.ok) : ∀ n, (sqE n x).ok
  | 0 => hx
  | n + 1 => by rw [sq_succ]; exact times_ok _ _
def Pt.ok (p : Pt) : Prop := p.x.ok ∧ p.y.ok ∧ p.z.ok ∧ p.t.ok
/-- Twenty cells. -/
def Pt.cs (p : Pt) : Array Value := #[.int .u64 (p.x.a : Int), .int .u64 (p.x.b : Int), .int .u64 (p.x.c : Int), .int .u64 (p.x.d : Int), .int .u64 (p.x.e : Int), .int .u64 (p.y.a : Int), .int .u64 (p.y.b : Int), .int .u64 (p.y.c : Int), .int .u64 (p.y.d : Int), .int .u64 (p.y.e : Int), .int .u64 (p.z.a : Int), .int .u64 (p.z.b : Int), .int .u64 (p.z.c : Int), .int .u64 (p.z.d : Int), .int .u64 (p.z.e : Int), .int .u64 (p.t.a : Int), .int .u64 (p.t.b : Int), .int .u64 (p.t.c : Int), .int .u64 (p.t.d : Int), .int .u64 (p.t.e : Int)]
def nilP : Pt := ⟨nilE, nilE, nilE, nilE⟩
theorem zeroP : ∀ w, (zeroValue 262).run Tryz.prog w = .ok (.agg nilP.cs) w := fun w => by kernel_rfl
theorem Pt.cells (p : Pt) : (p.cs.all fun v => v.oneCell') = true := by kernel_rfl
def PRet (p : Pt) (w : World) (e : Ending) (w' : World) : Prop := e = .returned (.agg p.cs) ∧ Below w.heap.size w w'
theorem retP {w : World} {b : Nat} {p : Pt} {T : TypeId} (h : w.heap[b]? = some (.cells p.cs T (0, 0))) : (loadVar 262 ⟨b, 0, none⟩).run Tryz.prog w = .ok (.agg p.cs) w :=
  run_loadVar_mid (P := Tryz.prog) w b 0 262 p.cs.toList _ (range_row h) Tryz.underlying262 rfl (by kernel_rfl)
section
variable {w0 w : World} {bs : List (Nat × Array Value × TypeId)}
theorem BK.le (h : BK w0 w bs) (i : Nat) {b : Nat} {x : E5} {t : TypeId} (hi : bs[i]? = some (b, x.cs, t)) : ∀ w', Below w.heap.size w w' → w'.rangeAt b 0 x.cs.toList := fun _ hb => range_row ((h.later hb).mem hi)
theorem BK.lp (h : BK w0 w bs) (i : Nat) {b : Nat} {p : Pt} {t : TypeId} (hi : bs[i]? = some (b, p.cs, t)) : ∀ w', Below w.heap.size w w' → w'.rangeAt b 0 p.cs.toList := fun _ hb => range_row ((h.later hb).mem hi)
theorem five {c : Array Value} {o : Nat} {x : E5} (h0 : c[o]? = some (.int .u64 x.a)) (h1 : c[o + 1]? = some (.int .u64 x.b)) (h2 : c[o + 2]? = some (.int .u64 x.c)) (h3 : c[o + 3]? = some (.int .u64 x.d)) (h4 : c[o + 4]? = some (.int .u64 x.e)) : ∀ j, j < x.cs.toList.length → c[o + j]? = x.cs.toList[j]? := fun j hj => by
  have hj5 : j < 5 := hj
  obtain rfl | rfl | rfl | rfl | rfl : j = 0 ∨ j = 1 ∨ j = 2 ∨ j = 3 ∨ j = 4 := by omega
  · exact h0
  · exact h1
  · exact h2
  · exact h3
  · exact h4
theorem BK.lx (h : BK w0 w bs) (i : Nat) {b : Nat} {p : Pt} {t : TypeId} (hi : bs[i]? = some (b, p.cs, t)) : ∀ w', Below w.heap.size w w' → w'.rangeAt b 0 p.x.cs.toList := fun _ hb => rangeAt_part ((h.later hb).mem hi) 0 _ (five (by rfl) (by rfl) (by rfl) (by rfl) (by rfl))
theorem BK.ly (h : BK w0 w bs) (i : Nat) {b : Nat} {p : Pt} {t : TypeId} (hi : bs[i]? = some (b, p.cs, t)) : ∀ w', Below w.heap.size w w' → w'.rangeAt b 5 p.y.cs.toList := fun _ hb => rangeAt_part ((h.later hb).mem hi) 5 _ (five (by rfl) (by rfl) (by rfl) (by rfl) (by rfl))
theorem BK.lz (h : BK w0 w bs) (i : Nat) {b : Nat} {p : Pt} {t : TypeId} (hi : bs[i]? = some (b, p.cs, t)) : ∀ w', Below w.heap.size w w' → w'.rangeAt b 10 p.z.cs.toList := fun _ hb => rangeAt_part ((h.later hb).mem hi) 10 _ (five (by rfl) (by rfl) (by rfl) (by rfl) (by rfl))
theorem BK.lt_ (h : BK w0 w bs) (i : Nat) {b : Nat} {p : Pt} {t : TypeId} (hi : bs[i]? = some (b, p.cs, t)) : ∀ w', Below w.heap.size w w' → w'.rangeAt b 15 p.t.cs.toList := fun _ hb => rangeAt_part ((h.later hb).mem hi) 15 _ (five (by rfl) (by rfl) (by rfl) (by rfl) (by rfl))
variable {o : Oper} {a : Act} {rest : List Oper} {ops : Array Oper} {Q : Exit → Act → World → Prop} {F : World → Prop} {K : Act → Prop} {x : Operand} {b off : Nat}
theorem q_load_e (ho : o.op = .load 260 x) (y : E5) (hx : a.eval x = .pointer (some ⟨b, off, none⟩)) (hc : ∀ w', Below w.heap.size w w' → w'.rangeAt b off y.cs.toList) (hk : K (a.put o.dst (.agg y.cs))) : o.quiet Tryz.prog a (fun w' => ∃ n : FS w F, w' = n.val) K :=
  quiet_load_fs 260 x ho b off hx y.cs _ hc Tryz.underlying260 rfl (by kernel_rfl) hk
theorem q_load_p (ho : o.op = .load 262 x) (p : Pt) (hx : a.eval x = .pointer (some ⟨b, off, none⟩)) (hc : ∀ w', Below w.heap.size w w' → w'.rangeAt b off p.cs.toList) (hk : K (a.put o.dst (.agg p.cs))) : o.quiet Tryz.prog a (fun w' => ∃ n : FS w F, w' = n.val) K :=
  quiet_load_fs 262 x ho b off hx p.cs _ hc Tryz.underlying262 rfl (by kernel_rfl) hk
theorem s_load_e (hg : o.guard = none) (ho : o.op = .load 260 x) (y : E5) (hx : a.eval x = .pointer (some ⟨b, off, none⟩)) (hc : ∀ w', Below w.heap.size w w' → w'.rangeAt b off y.cs.toList) (h : wpList Tryz.prog ops Q rest (a.put o.dst (.agg y.cs)) w) : wpList Tryz.prog ops Q (o :: rest) a w :=
  wpList_load_arr hg 260 x ho b off hx y.cs _ (hc w (Below.refl _ _)) Tryz.underlying260 rfl (by kernel_rfl) h
theorem s_load_p (hg : o.guard = none) (ho : o.op = .load 262 x) (p : Pt) (hx : a.eval x = .pointer (some ⟨b, off, none⟩)) (hc : ∀ w', Below w.heap.size w w' → w'.rangeAt b off p.cs.toList) (h : wpList Tryz.prog ops Q rest (a.put o.dst (.agg p.cs)) w) : wpList Tryz.prog ops Q (o :: rest) a w :=
  wpList_load_arr hg 262 x ho b off hx p.cs _ (hc w (Below.refl _ _)) Tryz.underlying262 rfl (by kernel_rfl) h
theorem built_P (x y z t : E5) : Tryz.prog.built 262 [(0, .agg x.cs), (1, .agg y.cs), (2, .agg z.cs), (3, .agg t.cs)] = some (Pt.mk x y z t).cs := by kernel_rfl
theorem q_build_p {x0 x1 x2 x3 : Operand} {C : World → Prop} (ho : o.op = .build 262 #[(0, x0), (1, x1), (2, x2), (3, x3)]) (y0 y1 y2 y3 : E5) (h0 : a.eval x0 = .agg y0.cs) (h1 : a.eval x1 = .agg y1.cs) (h2 : a.eval x2 = .agg y2.cs) (h3 : a.eval x3 = .agg y3.cs) (hk : K (a.put o.dst (.agg (Pt.mk y0 y1 y2 y3).cs))) : o.quiet Tryz.prog a C K := by
  refine ⟨_, fun w _ => ?_, hk⟩
  have e : (#[(0, x0), (1, x1), (2, x2), (3, x3)].map fun (i, x) => (i, a.eval x)) = #[(0, .agg y0.cs), (1, .agg y1.cs), (2, .agg y2.cs), (3, .agg y3.cs)] := by simp [h0, h1, h2, h3]
  unfold Oper.quietAt execOp
  simp only [ho, e, run_build w _ _ _ (built_P y0 y1 y2 y3), Sem.run_bind, Sem.run_pure, Result.andThen_ok]
  exact ⟨rfl, rfl⟩
end
set_option maxRecDepth 100000 in
set_option maxHeartbeats 1000000 in
theorem squared_any (x : E5) (hx : x.ok) (n : Nat) (hn : n < 1000000) (w : World) : Calls Tryz.prog 233 #[.agg x.cs, .int .i64 (n : Int)] w (ERet (sqE n x) w) := by
  have F0 := Lib.hid (BK.start w)
  have HX := Lib.hid hx
  have hnI : (n : Int) < 1000000 := by omega
  clear hx hn
  go_enter Tryz.func233, Tryz.ntmps233
  go_wp2_with (first
    | (have hx_ := F0; refine s_box hx_.out rfl rfl rfl rfl ?_; clear F0 hx_; intro w1 b1 h1 _; have F1 := Lib.hid h1; clear h1)
    | (have hx_ := F1; refine s_alloc hx_.out rfl rfl zeroE rfl ?_; clear F1 hx_; intro w3 b3 h1 _; have F3 := Lib.hid h1; clear h1))
  go_loopw [6] (fun i wr => ∃ k : Nat, k ≤ n ∧ i = .int .i64 (k : Int) ∧ Hid (BK w wr [(b3, nilE.cs, 260), (b1, (sqE k x).cs, 260)])) (fun i _ => n - (intOf i).toNat)
  case atStart => exact ⟨0, Nat.zero_le _, rfl, F3.out⟩
  case round =>
    obtain ⟨k, hk, rfl, hF⟩ := hrel
    clear F3
    by_cases hlt : k < n
    · have hlt' : (k : Int) < (n : Int) := by omega
      have hk0 : (0 : Int) ≤ (k : Int) := by omega
      have HL := Lib.hid hlt
      obtain ⟨y, hy⟩ : ∃ y, y = sqE k x := ⟨_, rfl⟩
      have HY := Lib.hid hy
      have Hy : Hid y.ok := by show y.ok; rw [hy]; exact sq_ok HX.out k
      rw [← hy] at hF
      clear hlt hk hy
      go_wp2_with (first
        | (refine s_load_e rfl rfl y rfl (hF.out.le 1 rfl) ?_)
        | (go_at_call 199; refine (Times_any y y Hy.out Hy.out _).mono ?_; rintro e w4 ⟨rfl, hb⟩; have F4 := Lib.hid (hF.out.later hb); clear hb hF)
        | (have hx_ := F4; refine s_store hx_.out rfl rfl 1 rfl rfl (timesE y y).cs rfl rfl (by kernel_rfl) (E5.cells _) ?_; clear F4 hx_; intro w5 h1; have F5 := Lib.hid h1; clear h1))
      go_roundw
      case rel => exact ⟨k + 1, HL.out, by go_num, by show BK _ _ _; have h5 := F5.out; rw [HY.out, ← sq_succ] at h5; exact h5⟩
      case measure => simp [intOf]; have := HL.out; omega
    · obtain rfl : k = n := by omega
      have hd : decide ((k : Int) < (k : Int)) = false := by simp
      go_wp2_with (first
        | (refine s_load_e rfl rfl (sqE k x) rfl (hF.out.le 1 rfl) ?_)
        | (have hx_ := hF; refine s_store hx_.out rfl rfl 0 rfl rfl (sqE k x).cs rfl rfl (by kernel_rfl) (E5.cells _) ?_; clear hF hx_; intro w5 h1; have F5 := Lib.hid h1; clear h1))
      exact bodyPost_ret (v := .agg (sqE k x).cs) (by simp [results, Tryz.results233, asAddr]; exact ret5 (F5.out.mem (i := 0) rfl)) rfl ⟨rfl, F5.out.below⟩
end Go.Proofs.YtbcpmnnlhdgbhaaGreatDoor

namespace Go.Proofs.YtbcpmnnlhdgbhaaGreatDoor
open Go.RowKit Go.Lib
theorem one_ok : oneE.ok := ⟨by decide, by decide, by decide, by decide, by decide⟩
theorem nil_ok : nilE.ok := ⟨by decide, by decide, by decide, by decide, by decide⟩
theorem twice_ok : twiceE.ok := ⟨by decide, by decide, by decide, by decide, by decide⟩
theorem bx_ok : bxE.ok := ⟨by decide, by decide, by decide, by decide, by decide⟩
theorem by_ok : byE.ok := ⟨by decide, by decide, by decide, by decide, by decide⟩
set_option maxRecDepth 100000 in
set_option maxHeartbeats 400000 in
theorem One_any (w : World) : Calls Tryz.prog 217 #[] w (fun e w' => e = .returned (.agg oneE.cs) ∧ Below w.heap.size w w') := by
  have F0 := Lib.hid (BK.start w)
  have hz := zeroE
  go_enter Tryz.func217, Tryz.ntmps217
  go_wp2_with (first
    | (have hx_ := F0; refine s_alloc hx_.out rfl rfl zeroE rfl ?_; clear F0 hx_; intro w1 b1 h1 _; have F1 := Lib.hid h1; clear h1)
    | (have hx_ := F1; refine s_store hx_.out rfl rfl 0 rfl rfl oneE.cs rfl rfl (by kernel_rfl) (E5.cells _) ?_; clear F1 hx_; intro w4 h1; have F2 := Lib.hid h1; clear h1))
  exact bodyPost_ret (v := .agg oneE.cs) (by simp [results, Tryz.results217, asAddr]; exact ret5 (F2.out.mem (i := 0) rfl)) rfl ⟨rfl, F2.out.below⟩
set_option maxRecDepth 100000 in
set_option maxHeartbeats 400000 in
theorem twice_any (w : World) : Calls Tryz.prog 237 #[] w (fun e w' => e = .returned (.agg twiceE.cs) ∧ Below w.heap.size w w') := by
  have F0 := Lib.hid (BK.start w)
  have hz := zeroE
  go_enter Tryz.func237, Tryz.ntmps237
  go_wp2_with (first
    | (have hx_ := F0; refine s_alloc hx_.out rfl rfl zeroE rfl ?_; clear F0 hx_; intro w1 b1 h1 _; have F1 := Lib.hid h1; clear h1)
    | (have hx_ := F1; refine s_store hx_.out rfl rfl 0 rfl rfl twiceE.cs rfl rfl (by kernel_rfl) (E5.cells _) ?_; clear F1 hx_; intro w4 h1; have F2 := Lib.hid h1; clear h1))
  exact bodyPost_ret (v := .agg twiceE.cs) (by simp [results, Tryz.results237, asAddr]; exact ret5 (F2.out.mem (i := 0) rfl)) rfl ⟨rfl, F2.out.below⟩
theorem built_O (y z : E5) : Tryz.prog.built 262 [(1, .agg y.cs), (2, .agg z.cs)] = some (Pt.mk nilE y z nilE).cs := by kernel_rfl
theorem run_build_O (y z : E5) (w : World) : (Instr.build 262 #[(1, .agg y.cs), (2, .agg z.cs)]).run Tryz.prog w = .ok (.agg (Pt.mk nilE y z nilE).cs) w := run_build w _ _ _ (built_O y z)
set_option maxRecDepth 100000 in
set_option maxHeartbeats 400000 in
theorem Origin_any (w : World) : Calls Tryz.prog 202 #[] w (PRet originP w) := by
  have F0 := Lib.hid (BK.start w)
  have hz := zeroE
  have hb := run_build_O oneE oneE
  go_enter Tryz.func202, Tryz.ntmps202
  have T0 : Hid True := trivial
  go_wp2_with (first
    | (have hx_ := F0; refine s_alloc hx_.out rfl rfl zeroP rfl ?_; clear F0 hx_; intro w1 b1 h1 _; have F1 := Lib.hid h1; clear h1)
    | (go_at_call 217; have hx_ := T0; refine (One_any _).mono ?_; rintro e w2 ⟨rfl, hb2⟩; have F2 := Lib.hid (F1.out.later hb2); clear hb2 F1 T0 hx_; have T1 : Hid True := trivial)
    | (go_at_call 217; have hx_ := T1; refine (One_any _).mono ?_; rintro e w3 ⟨rfl, hb2⟩; have F3 := Lib.hid (F2.out.later hb2); clear hb2 F2 T1 hx_)
    | (have hx_ := F3; refine s_store hx_.out rfl rfl 0 rfl rfl originP.cs rfl rfl (by kernel_rfl) (Pt.cells _) ?_; clear F3 hx_; intro w4 h1; have F4 := Lib.hid h1; clear h1))
  exact bodyPost_ret (v := .agg originP.cs) (by simp [results, Tryz.results202, asAddr]; exact retP (F4.out.mem (i := 0) rfl)) rfl ⟨rfl, F4.out.below⟩
end Go.Proofs.YtbcpmnnlhdgbhaaGreatDoor

namespace Go.Proofs.YtbcpmnnlhdgbhaaGreatDoor
open Go.RowKit Go.Lib
/-- The first k of n bytes told. -/
def genC (f : Nat → UInt8) (n k : Nat) : Array Value := ((List.range n).map fun i => if i < k then bv (f i) else .int .u8 0).toArray
def genL (f : Nat → UInt8) (n : Nat) : List UInt8 := (List.range n).map f
theorem genC_size (f : Nat → UInt8) (n k : Nat) : (genC f n k).size = n := by simp [genC]
theorem genC_set (f : Nat → UInt8) (n k : Nat) (hk : k < n) {v : Value} (hv : v = bv (f k)) : (genC f n k).setIfInBounds k v = genC f n (k + 1) := by
  subst hv
  apply Array.ext_getElem?
  intro i
  by_cases hi : i = k
  · subst hi; simp [genC, hk]
  · rw [Array.getElem?_setIfInBounds_ne (Ne.symm hi)]
    simp only [genC]
    by_cases h64 : i < n
    · simp only [List.getElem?_toArray, List.getElem?_map, List.getElem?_range h64, Option.map_some]
      by_cases h : i < k
      · rw [if_pos h, if_pos (by omega)]
      · rw [if_neg h, if_neg (by omega)]
    · simp [h64]
theorem genC_last (f : Nat → UInt8) (n : Nat) : genC f n n = (bvs (genL f n)).toArray := by
  simp only [genC, bvs, genL, List.map_map]
  refine congrArg List.toArray (List.map_congr_left ?_)
  intro i hi
  rw [if_pos (by simpa using hi)]
  rfl
theorem genL_length (f : Nat → UInt8) (n : Nat) : (genL f n).length = n := by simp [genL]
section
variable {w0 w : World} {bs : List (Nat × Array Value × TypeId)} {o : Oper} {a : Act} {rest : List Oper} {ops : Array Oper} {Q : Exit → Act → World → Prop} {F : World → Prop} {K : Act → Prop} {x : Operand} {b : Nat}
theorem bvs_size (l : List UInt8) : (bvs l).toArray.size = l.length := by simp [bvs_length]
theorem bvs_cells (l : List UInt8) : ((bvs l).toArray.all fun v => v.oneCell') = true := all_oneCell_toArray (bvs_one _)
theorem BK.lb (h : BK w0 w bs) (i : Nat) {l : List UInt8} {t : TypeId} (hi : bs[i]? = some (b, (bvs l).toArray, t)) : ∀ w', Below w.heap.size w w' → w'.rangeAt b 0 (bvs l).toArray.toList := fun _ hb => range_row ((h.later hb).mem hi)
theorem s_load_b (hg : o.guard = none) (ho : o.op = .load 31 x) (l : List UInt8) (hl : l.length = 32) (hx : a.eval x = .pointer (some ⟨b, 0, none⟩)) (hc : ∀ w', Below w.heap.size w w' → w'.rangeAt b 0 (bvs l).toArray.toList) (h : wpList Tryz.prog ops Q rest (a.put o.dst (.agg (bvs l).toArray)) w) : wpList Tryz.prog ops Q (o :: rest) a w :=
  wpList_load_arr hg 31 x ho b 0 hx _ _ (hc w (Below.refl _ _)) Tryz.underlying31 rfl (by rw [bvs_size, hl]; kernel_rfl) h
theorem q_load_b (ho : o.op = .load 31 x) (l : List UInt8) (hl : l.length = 32) (hx : a.eval x = .pointer (some ⟨b, 0, none⟩)) (hc : ∀ w', Below w.heap.size w w' → w'.rangeAt b 0 (bvs l).toArray.toList) (hk : K (a.put o.dst (.agg (bvs l).toArray))) : o.quiet Tryz.prog a (fun w' => ∃ n : FS w F, w' = n.val) K :=
  quiet_load_fs 31 x ho b 0 hx _ _ hc Tryz.underlying31 rfl (by rw [bvs_size, hl]; kernel_rfl) hk
theorem s_store_b (F : BK w0 w bs) (hg : o.guard = none) {x y : Operand} (ho : o.op = .store 31 x y) (i : Nat) {b : Nat} {c : Array Value} {t : TypeId} (hi : bs[i]? = some (b, c, t)) (hx : a.eval x = .pointer (some ⟨b, 0, none⟩))
    (l : List UInt8) (hl : l.length = 32) (hy : a.eval y = .agg (bvs l).toArray) (hs : c.size = 32) (h : ∀ w', BK w0 w' (bs.set i (b, (bvs l).toArray, t)) → wpList Tryz.prog ops Q rest (a.put o.dst undef) w') : wpList Tryz.prog ops Q (o :: rest) a w :=
  s_store F hg ho i hi hx _ hy (by rw [bvs_size, hl, hs]) (by rw [bvs_size, hl]; kernel_rfl) (bvs_cells _) h
theorem ret32 {w : World} {b : Nat} {l : List UInt8} {T : TypeId} (hl : l.length = 32) (h : w.heap[b]? = some (.cells (bvs l).toArray T (0, 0))) : (loadVar 31 ⟨b, 0, none⟩).run Tryz.prog w = .ok (.agg (bvs l).toArray) w := by
  have h1 := run_loadVar_mid (P := Tryz.prog) w b 0 31 (bvs l).toArray.toList _ (range_row h) Tryz.underlying31 rfl (by rw [Array.length_toList, bvs_size, hl]; kernel_rfl)
  rw [Array.toArray_toList] at h1
  exact h1
end
end Go.Proofs.YtbcpmnnlhdgbhaaGreatDoor

namespace Go.Proofs.YtbcpmnnlhdgbhaaGreatDoor
open Go.RowKit Go.Lib
/-- A block that is none of those is written through. -/
theorem BK.frm_other {w0 w w' : World} {bs : List (Nat × Array Value × TypeId)} (h : BK w0 w bs) {g : Nat} (hf : Frm [g] w w') (hg : w0.heap.size ≤ g) (hn : g ∉ bs.map (·.1)) : BK w0 w' bs :=
  ⟨h.below.trans (hf.below h.below.size (by simpa using hg)), h.nodup, h.own, fun e he => hf.heap (h.row e he) (by
    have : e.1 ≠ g := fun e1 => hn (List.mem_map.2 ⟨e, he, e1⟩)
    simpa using this)⟩
theorem BK.not_new {w0 w : World} {bs : List (Nat × Array Value × TypeId)} (h : BK w0 w bs) {g : Nat} (hg : w.heap.size ≤ g) : g ∉ bs.map (·.1) := fun hm => by
  obtain ⟨e, he, h1⟩ := List.mem_map.1 hm
  have := lt_of_heap (h.row e he)
  omega
set_option maxRecDepth 100000 in
set_option maxHeartbeats 1000000 in
theorem Sum256_any (A : Option Addr) (n c : Nat) (K : List Int) (m : List UInt8) (w : World) (hkt : KT w K) (hr : Reads w w.heap.size 1 A n (bvs m)) (hc : n ≤ c) (h0 : 0 < n) (hn : n ≤ 1000000) : Calls Tryz.prog 60 #[.slice A n c] w (SumPost (sumF K m) w) := by
  have F0 := Lib.hid (BK.start w)
  have T0 : Hid True := trivial
  have hml : m.length = n := by have := hr.1; rw [bvs_length] at this; omega
  obtain ⟨bb, off, hA, hbb, _⟩ := hr.bytes h0
  subst hA
  have HR := Lib.hid hr
  have HKT := Lib.hid hkt
  have HML := Lib.hid hml
  have HC := Lib.hid hc
  have HN := Lib.hid hn
  have HBB := Lib.hid hbb
  obtain ⟨l, hl⟩ : ∃ l, l = sumF K m := ⟨_, rfl⟩
  have Hl : Hid (l.length = 32) := by show _ = _; rw [hl]; exact sumF_len _ _
  have HL := Lib.hid hl
  rw [← hl]
  clear hr hkt hml hc hn hbb hl
  go_enter Tryz.func60, Tryz.ntmps60
  go_wp2_with (first
    | (have hx_ := T0; refine s_alloc F0.out rfl rfl zeroZ32 rfl ?_; clear hx_ T0; intro w1 b1 h1 _; have F1 := Lib.hid h1; clear h1 F0; have T1 : Hid True := trivial)
    | (go_at_call 96; have hx_ := T1; refine (HNew_any K _).mono ?_; clear hx_ T1; rintro e w2 ⟨g, rfl, hg, hb, hs⟩; have F2 := Lib.hid (F1.out.later hb); have HG : Hid (g ∉ [(b1, (bvs (List.replicate 32 0)).toArray, 31)].map (·.1) ∧ w.heap.size ≤ g) := ⟨F1.out.not_new hg, Nat.le_trans F1.out.below.size hg⟩; have HS := Lib.hid hs; clear hs hb hg F1; have T2 : Hid True := trivial)
    | (go_at_call 97; have hx_ := T2; refine (HWrite_any (some ⟨bb, off, none⟩) n c g K [] m w2 HS.out (HKT.out.bel F2.out.below) (by have := HKT.out.1; have := HG.out.2; omega) ((HR.out.below F2.out.below).more F2.out.below.size) HC.out (by intro ad e; cases e; show bb ≠ g; have := HBB.out; have := HG.out.2; omega) (by rw [HML.out]; have := HN.out; simp; omega)).mono ?_; clear hx_ T2; rintro e w3 ⟨rfl, hf, hs⟩; have F3 := Lib.hid (F2.out.frm_other hf HG.out.2 HG.out.1); have HS3 := Lib.hid hs; clear hs hf F2 HS; have T3 : Hid True := trivial)
    | (go_at_call 98; have hx_ := T3; refine (Sum_any g K m w3 HS3.out (HKT.out.bel F3.out.below) (by rw [HML.out]; have := HN.out; omega)).mono ?_; clear hx_ T3; rintro e w4 ⟨rfl, hb⟩; have F4 := Lib.hid (F3.out.later hb); clear hb F3 HS3; rw [← HL.out]; have T4 : Hid True := trivial)
    | (have hx_ := T4; refine s_store_b F4.out rfl rfl 0 rfl rfl l Hl.out rfl rfl ?_; clear hx_ T4; intro w5 h1; have F5 := Lib.hid h1; clear h1 F4))
  exact bodyPost_ret (v := .agg (bvs l).toArray) (by simp [results, Tryz.results60, asAddr]; exact ret32 Hl.out (F5.out.mem (i := 0) rfl)) rfl ⟨rfl, F5.out.below⟩
end Go.Proofs.YtbcpmnnlhdgbhaaGreatDoor

namespace Go.Proofs.YtbcpmnnlhdgbhaaGreatDoor
open Go.RowKit Go.Lib
/-- One, if the number is p or more: so far. -/
def qN (z : E5) : Nat → Nat
  | 0 => (z.a + 19) % 18446744073709551616 / 2251799813685248
  | k + 1 => (z.wd (1 + k) + qN z k) % 18446744073709551616 / 2251799813685248
def E5.setw (x : E5) (j v : Nat) : E5 := match j with
  | 0 => { x with a := v }
  | 1 => { x with b := v }
  | 2 => { x with c := v }
  | 3 => { x with d := v }
  | _ => { x with e := v }
theorem E5.setw_cs (x : E5) {j : Nat} (v : Nat) (hj : j < 5) : x.cs.setIfInBounds j (.int .u64 (v : Int)) = (x.setw j v).cs := by
  obtain rfl | rfl | rfl | rfl | rfl : j = 0 ∨ j = 1 ∨ j = 2 ∨ j = 3 ∨ j = 4 := by omega
  all_goals rfl
theorem E5.wd_lt {x : E5} (h : x.ok) {j : Nat} (hj : j < 5) : x.wd j < 18446744073709551616 := by
  obtain rfl | rfl | rfl | rfl | rfl : j = 0 ∨ j = 1 ∨ j = 2 ∨ j = 3 ∨ j = 4 := by omega
  · exact h.1
  · exact h.2.1
  · exact h.2.2.1
  · exact h.2.2.2.1
  · exact h.2.2.2.2
theorem E5.setw_ok {x : E5} (h : x.ok) {j v : Nat} (hj : j < 5) (hv : v < 18446744073709551616) : (x.setw j v).ok := by
  obtain ⟨h0, h1, h2, h3, h4⟩ := h
  obtain rfl | rfl | rfl | rfl | rfl : j = 0 ∨ j = 1 ∨ j = 2 ∨ j = 3 ∨ j = 4 := by omega
  · exact ⟨hv, h1, h2, h3, h4⟩
  · exact ⟨h0, hv, h2, h3, h4⟩
  · exact ⟨h0, h1, hv, h3, h4⟩
  · exact ⟨h0, h1, h2, hv, h4⟩
  · exact ⟨h0, h1, h2, h3, hv⟩
theorem E5.setw_wd (x : E5) {i j : Nat} (v : Nat) (hi : i < 5) (hj : j < 5) : (x.setw j v).wd i = if i = j then v else x.wd i := by
  obtain rfl | rfl | rfl | rfl | rfl : i = 0 ∨ i = 1 ∨ i = 2 ∨ i = 3 ∨ i = 4 := by omega
  all_goals (obtain rfl | rfl | rfl | rfl | rfl : j = 0 ∨ j = 1 ∨ j = 2 ∨ j = 3 ∨ j = 4 := by omega) <;> rfl
def upL (y : E5) (k : Nat) : E5 := y.setw (k + 1) ((y.wd (k + 1) + y.wd k / 2251799813685248) % 18446744073709551616)
def limL (y : E5) : Nat → E5
  | 0 => y
  | k + 1 => (upL (limL y k) k).setw k ((limL y k).wd k % 2251799813685248)
theorem limL_ok {y : E5} (h : y.ok) : ∀ k, k ≤ 4 → (limL y k).ok
  | 0, _ => h
  | k + 1, hk => E5.setw_ok (E5.setw_ok (limL_ok h k (by omega)) (by omega) (Nat.mod_lt _ (by decide))) (by omega) (by omega)
def begL (z : E5) : E5 := z.setw 0 ((z.a + 19 * qN z 4 % 18446744073709551616) % 18446744073709551616)
def endL (y : E5) : E5 := y.setw 4 (y.e % 2251799813685248)
theorem leastE_eq (z : E5) : leastE z = endL (limL (begL z) 4) := by
  obtain ⟨a, b, c, d, e⟩ := z
  simp only [leastE, endL, limL, begL, upL, E5.setw, E5.wd, qN, Nat.reduceAdd]
def wordk (y : E5) : Nat → Nat
  | 0 => word0 y
  | 1 => word1 y
  | 2 => word2 y
  | _ => word3 y
def byteF (y : E5) (t : Nat) : UInt8 := UInt8.ofNat (wordk y (t / 8) / 2 ^ (8 * (t % 8)))
theorem bytesE_eq (x : E5) : bytesE x = genL (byteF (leastE (carrE (carrE x)))) 32 := by
  unfold bytesE
  generalize leastE (carrE (carrE x)) = y
  kernel_rfl
theorem shl_orE {a b k : Nat} {m : Nat} (ha : a < 18446744073709551616) : bits BinOp.or IntKind.u64 ((a / k : Nat) : Int) (IntKind.u64.wrap ((b : Int) * (m : Int))) = ((a / k ||| b * m % 18446744073709551616 : Nat) : Int) := by
  have h2 : IntKind.u64.wrap ((b : Int) * (m : Int)) = ((b * m % 18446744073709551616 : Nat) : Int) := by
    rw [show (b : Int) * (m : Int) = ((b * m : Nat) : Int) from by push_cast; rfl, wrapU]
  rw [h2, bits_or_u64_nat _ _ (Nat.lt_of_le_of_lt (Nat.div_le_self _ _) ha) (Nat.mod_lt _ (by decide))]
theorem shl_or0 {a b m : Nat} (ha : a < 18446744073709551616) : bits BinOp.or IntKind.u64 (a : Int) (IntKind.u64.wrap ((b : Int) * (m : Int))) = ((a ||| b * m % 18446744073709551616 : Nat) : Int) := by
  have h1 := shl_orE (k := 1) (b := b) (m := m) ha
  rw [Nat.div_one] at h1
  exact h1
theorem zero32 : ∀ w, (zeroValue 31).run Tryz.prog w = .ok (.agg (genC (byteF nilE) 32 0)) w := fun w => by kernel_rfl
theorem genC_zero (f g : Nat → UInt8) (n : Nat) : genC f n 0 = genC g n 0 := by
  unfold genC
  congr 1
end Go.Proofs.YtbcpmnnlhdgbhaaGreatDoor

namespace Go.Proofs.YtbcpmnnlhdgbhaaGreatDoor
open Go.RowKit Go.Lib
theorem qN_succ (z : E5) (k : Nat) : ((((z.wd (1 + k) + qN z k) % 18446744073709551616 : Nat) : Int)) / 2251799813685248 = (qN z (k + 1) : Int) := by
  rw [show qN z (k + 1) = (z.wd (1 + k) + qN z k) % 18446744073709551616 / 2251799813685248 from rfl]
  generalize (z.wd (1 + k) + qN z k) % 18446744073709551616 = t
  omega
theorem qN_zero (z : E5) : IntKind.u64.wrap ((z.wd 0 : Int) + 19) / 2251799813685248 = (qN z 0 : Int) := by
  have h := wadd (z.wd 0) 19
  simp only [Int.cast_ofNat_Int] at h
  rw [h, show qN z 0 = (z.wd 0 + 19) % 18446744073709551616 / 2251799813685248 from rfl]
  generalize (z.wd 0 + 19) % 18446744073709551616 = t
  omega
theorem beg_set (z : E5) : z.cs.setIfInBounds 0 (.int .u64 (IntKind.u64.wrap ((z.wd 0 : Int) + IntKind.u64.wrap (19 * (qN z 4 : Int))))) = (begL z).cs := by
  rw [wmul, wadd, E5.setw_cs _ _ (by decide)]
  rfl
theorem up_set (L : E5) {k : Nat} (hk : k < 4) : L.cs.setIfInBounds (k + 1) (.int .u64 (IntKind.u64.wrap ((L.wd (k + 1) : Int) + (L.wd k : Int) / 2251799813685248))) = (upL L k).cs := by
  rw [show (L.wd k : Int) / 2251799813685248 = ((L.wd k / 2251799813685248 : Nat) : Int) from by omega, wadd, E5.setw_cs _ _ (by omega)]
  rfl
theorem up_at (L : E5) {k : Nat} (hk : k < 4) : (upL L k).wd k = L.wd k := by
  unfold upL
  rw [E5.setw_wd _ _ (by omega) (by omega), if_neg (by omega)]
theorem lim_set {L : E5} (hL : L.ok) {k : Nat} (hk : k < 4) : (upL L k).cs.setIfInBounds k (.int .u64 (bits BinOp.and IntKind.u64 (L.wd k : Int) 2251799813685247)) = ((upL L k).setw k (L.wd k % 2251799813685248)).cs := by
  rw [and51 (E5.wd_lt hL (by omega)), E5.setw_cs _ _ (by omega)]
theorem end_set {L : E5} (hL : L.ok) : L.cs.setIfInBounds 4 (.int .u64 (bits BinOp.and IntKind.u64 (L.wd 4 : Int) 2251799813685247)) = (endL L).cs := by
  rw [and51 (E5.wd_lt hL (by decide)), E5.setw_cs _ _ (by decide)]
  rfl
theorem end_ok {L : E5} (hL : L.ok) : (endL L).ok := E5.setw_ok hL (j := 4) (by decide) (Nat.lt_of_le_of_lt (Nat.mod_le _ _) hL.2.2.2.2)
theorem beg_ok {z : E5} (hz : z.ok) : (begL z).ok := E5.setw_ok hz (j := 0) (by decide) (Nat.mod_lt _ (by decide))
theorem w_0 {y : E5} (hy : y.ok) : bits BinOp.or IntKind.u64 (y.a : Int) (IntKind.u64.wrap ((y.b : Int) * 2251799813685248)) = (word0 y : Int) := shl_or0 (b := y.b) (m := 2251799813685248) hy.1
theorem w_1 {y : E5} (hy : y.ok) : bits BinOp.or IntKind.u64 ((y.b : Int) / 8192) (IntKind.u64.wrap ((y.c : Int) * 274877906944)) = (word1 y : Int) := shl_orE (k := 8192) (b := y.c) (m := 274877906944) hy.2.1
theorem w_2 {y : E5} (hy : y.ok) : bits BinOp.or IntKind.u64 ((y.c : Int) / 67108864) (IntKind.u64.wrap ((y.d : Int) * 33554432)) = (word2 y : Int) := shl_orE (k := 67108864) (b := y.d) (m := 33554432) hy.2.2.1
theorem w_3 {y : E5} (hy : y.ok) : bits BinOp.or IntKind.u64 ((y.d : Int) / 549755813888) (IntKind.u64.wrap ((y.e : Int) * 4096)) = (word3 y : Int) := shl_orE (k := 549755813888) (b := y.e) (m := 4096) hy.2.2.2.1
theorem run_index4 (y : E5) (k : Nat) (hk : k < 4) (w : World) : (Instr.index 293 (.agg #[.int .u64 (word0 y : Int), .int .u64 (word1 y : Int), .int .u64 (word2 y : Int), .int .u64 (word3 y : Int)]) (.int .i64 (k : Int))).run Tryz.prog w = .ok (.int .u64 (wordk y k : Int)) w := by
  obtain rfl | rfl | rfl | rfl : k = 0 ∨ k = 1 ∨ k = 2 ∨ k = 3 := by omega
  all_goals (change _ = _; kernel_rfl)
theorem byteF_val (y : E5) {i j : Nat} (hj : j < 8) : Value.int IntKind.u8 ((wordk y i : Int) / 2 ^ (8 * j) % 256) = bv (byteF y (8 * i + j)) := by
  unfold bv byteF
  rw [show (8 * i + j) / 8 = i from by omega, show (8 * i + j) % 8 = j from by omega]
  congr 1
def BRet (l : List UInt8) (w : World) (e : Ending) (w' : World) : Prop := e = .returned (.agg (bvs l).toArray) ∧ Below w.heap.size w w'
set_option maxRecDepth 100000 in
set_option maxHeartbeats 2000000 in
theorem bytesE_any (x : E5) (hx : x.ok) (w : World) : Calls Tryz.prog 200 #[.agg x.cs] w (BRet (bytesE x) w) := by
  rw [bytesE_eq, leastE_eq]
  obtain ⟨y1, hy1⟩ : ∃ y, y = carrE x := ⟨_, rfl⟩
  obtain ⟨z, hz⟩ : ∃ y, y = carrE y1 := ⟨_, rfl⟩
  rw [← hy1, ← hz]
  obtain ⟨y, hy⟩ : ∃ y, y = endL (limL (begL z) 4) := ⟨_, rfl⟩
  have HF := Lib.hid hy
  rw [← hy]
  clear hy
  have C1 : Hid (∀ w, Calls Tryz.prog 236 #[.agg x.cs] w (ERet y1 w)) := fun w => by rw [hy1]; exact carried_any x hx w
  have C2 : Hid (∀ w, Calls Tryz.prog 236 #[.agg y1.cs] w (ERet z w)) := fun w => by rw [hz]; exact carried_any y1 (by rw [hy1]; exact carr_ok _) w
  have HZ : Hid z.ok := by show z.ok; rw [hz]; exact carr_ok _
  clear hx hy1 hz
  have F0 := Lib.hid (BK.start w)
  have T0 : Hid True := trivial
  obtain ⟨zb, hzb⟩ : ∃ zb, zb = genC (byteF nilE) 32 0 := ⟨_, rfl⟩
  have hz32 : ∀ w, (zeroValue 31).run Tryz.prog w = .ok (.agg zb) w := by rw [hzb]; exact zero32
  have HZB := Lib.hid hzb
  clear hzb
  go_enter Tryz.func200, Tryz.ntmps200
  go_wp2_with (first
    | (have hx_ := T0; refine s_box F0.out rfl rfl rfl rfl ?_; clear T0 hx_; intro w1 b1 h1 _; have F1 := Lib.hid h1; clear h1 F0; have T1 : Hid True := trivial)
    | (have hx_ := T1; refine s_alloc F1.out rfl rfl hz32 rfl ?_; clear T1 hx_; intro w2 b2 h1 _; have F2 := Lib.hid h1; clear h1 F1; have T2 : Hid True := trivial)
    | (have hx_ := T2; refine s_load_e rfl rfl x rfl (F2.out.le 1 rfl) ?_; clear T2 hx_; have T3 : Hid True := trivial)
    | (go_at_call 236; have hx_ := T3; refine (C1.out _).mono ?_; clear hx_ T3; rintro e w3 ⟨rfl, hb⟩; have F3 := Lib.hid (F2.out.later hb); clear hb F2; have T4 : Hid True := trivial)
    | (go_at_call 236; have hx_ := T4; refine (C2.out _).mono ?_; clear hx_ T4; rintro e w4 ⟨rfl, hb⟩; have F4 := Lib.hid (F3.out.later hb); clear hb F3; have T5 : Hid True := trivial)
    | (have hx_ := T5; refine s_store F4.out rfl rfl 1 rfl rfl z.cs rfl rfl (by kernel_rfl) (E5.cells _) ?_; clear hx_ T5; intro w5 h1; have e0 := h1.cell 1 rfl 0; rw [E5.at_ _ (by decide)] at e0; have F5 := Lib.hid h1; clear h1 F4))
  rw [qN_zero]
  go_loopw [3, 20] (fun q i wr => ∃ k : Nat, k ≤ 4 ∧ i = .int .i64 (k : Int) ∧ q = .int .u64 (qN z k : Int) ∧ Hid (BK w wr [(b2, zb, 31), (b1, z.cs, 260)])) (fun _ i _ => 4 - (intOf i).toNat)
  case atStart => exact ⟨0, Nat.zero_le _, rfl, rfl, F5.out⟩
  case round =>
    obtain ⟨k, hk, rfl, rfl, hF⟩ := hrel
    clear F5 e0
    by_cases hlt : k < 4
    · have hlt' : (k : Int) < 4 := by omega
      have hk0 : (0 : Int) ≤ (k : Int) := by omega
      have cc := hF.out.cell 1 rfl (1 + k)
      rw [E5.at_ _ (by omega)] at cc
      have HL := Lib.hid hlt
      have hq := qN_succ z k
      rw [← wadd] at hq
      clear hlt hk
      go_wp2
      go_roundw
      case rel => exact ⟨k + 1, HL.out, by go_num, rfl, hF⟩
      case measure => simp [intOf]; have := HL.out; omega
    · obtain rfl : k = 4 := by omega
      have hd : decide (((4 : Nat) : Int) < 4) = false := by decide
      have e0 := hF.out.cell 1 rfl 0
      rw [E5.at_ _ (by decide)] at e0
      obtain ⟨Y, hY⟩ : ∃ Y, Y = begL z := ⟨_, rfl⟩
      have HY : Hid Y.ok := by show Y.ok; rw [hY]; exact beg_ok HZ.out
      have HS := Lib.hid (beg_set z)
      rw [← hY] at HS HF
      clear hY hk hlt
      go_wp2_with (refine s_set64 hF.out rfl rfl 1 rfl 0 (by show 0 < 5; decide) rfl _ rfl ?_; intro w6 h6; simp only [List.set_cons_succ, List.set_cons_zero] at h6; rw [HS.out] at h6; have F6 := Lib.hid h6; clear h6 hF e0 HS)
      go_loopw [35] (fun i wr => ∃ k : Nat, k ≤ 4 ∧ i = .int .i64 (k : Int) ∧ Hid (BK w wr [(b2, zb, 31), (b1, (limL Y k).cs, 260)])) (fun i _ => 4 - (intOf i).toNat)
      case atStart => exact ⟨0, Nat.zero_le _, rfl, F6.out⟩
      case round =>
        obtain ⟨k, hk, rfl, hF⟩ := hrel
        clear F6
        by_cases hlt : k < 4
        · have hlt' : (k : Int) < 4 := by omega
          have hlt5 : (k : Int) < 5 := by omega
          have hlt6 : (k : Int) + 1 < 5 := by omega
          have hk0 : (0 : Int) ≤ (k : Int) := by omega
          have hk1 : (0 : Int) ≤ (k : Int) + 1 := by omega
          obtain ⟨L, hL⟩ : ∃ L, L = limL Y k := ⟨_, rfl⟩
          have HLo : Hid L.ok := by show L.ok; rw [hL]; exact limL_ok HY.out k hk
          have HN : Hid (limL Y (k + 1) = (upL L k).setw k (L.wd k % 2251799813685248)) := by show _ = _; rw [hL]; rfl
          rw [← hL] at hF
          have c0 := hF.out.cell 1 rfl k
          have c1 := hF.out.cell 1 rfl (k + 1)
          rw [E5.at_ _ (by omega)] at c0 c1
          have HK := Lib.hid hlt
          clear hL hk hlt
          go_wp2
          refine wp_quiet_tail 10 (by kernel_rfl) (by kernel_rfl) ?_
          simp only [List.take_succ_cons, List.take_zero, List.drop_succ_cons, List.drop_zero]
          repeat (go_big_quiet_step (fail))
          refine wpQuiet_nil ?_
          have T0 : Hid True := trivial
          go_wp2_with (first
            | (have hx_ := T0; refine s_set64 hF.out.drew rfl rfl 1 rfl (k + 1) (by show k + 1 < 5; have := HK.out; omega) rfl _ rfl ?_; intro w7 h7; simp only [List.set_cons_succ, List.set_cons_zero] at h7; rw [up_set L HK.out] at h7; have c2 := h7.cell 1 rfl k; rw [E5.at_ _ (by have := HK.out; omega), up_at L HK.out] at c2; have F7 := Lib.hid h7; clear h7 hF c0 c1 T0 hx_; have T1 : Hid True := trivial)
            | (have hx_ := T1; refine s_set64 F7.out rfl rfl 1 rfl k (by show k < 5; have := HK.out; omega) rfl _ rfl ?_; intro w8 h8; simp only [List.set_cons_succ, List.set_cons_zero] at h8; rw [lim_set HLo.out HK.out] at h8; have F8 := Lib.hid h8; clear h8 F7 c2 hx_))
          go_roundw
          case rel => exact ⟨k + 1, HK.out, by go_num, by show BK _ _ _; rw [HN.out]; exact F8.out⟩
          case measure => simp [intOf]; have := HK.out; omega
        · obtain rfl : k = 4 := by omega
          have hd4 : decide (((4 : Nat) : Int) < 4) = false := by decide
          obtain ⟨L, hL⟩ : ∃ L, L = limL Y 4 := ⟨_, rfl⟩
          have HLo : Hid L.ok := by show L.ok; rw [hL]; exact limL_ok HY.out 4 hk
          rw [← hL] at hF HF
          clear hL hk hlt
          have c4 := hF.out.cell 1 rfl 4
          rw [E5.at_ _ (by decide)] at c4
          have HS := Lib.hid (end_set HLo.out)
          have Hy : Hid y.ok := by show y.ok; rw [HF.out]; exact end_ok HLo.out
          rw [← HF.out] at HS
          have p0 := w_0 Hy.out
          have p1 := w_1 Hy.out
          have p2 := w_2 Hy.out
          have p3 := w_3 Hy.out
          have T0 : Hid True := trivial
          go_wp2_with (first
            | (have hx_ := T0; refine s_set64 hF.out rfl rfl 1 rfl 4 (by show 4 < 5; decide) rfl _ rfl ?_; intro w8 h8; simp only [List.set_cons_succ, List.set_cons_zero] at h8; rw [HS.out] at h8; have F8 := Lib.hid h8; clear h8 hF c4 hx_ T0 HS; have T1 : Hid True := trivial)
            | (have hx_ := T1; refine s_alloc F8.out rfl rfl hz32 rfl ?_; clear T1 hx_; intro w9 b3 h9 _; obtain ⟨f0, f1, f2, f3, f4⟩ := h9.e5 2 rfl; have F9 := Lib.hid h9; clear h9 F8))
          clear f0 f1 f2 f3 f4 p0 p1 p2 p3
          have G9 : Hid (BK w w9 [(b3, genC (byteF y) 32 (8 * 0), 31), (b2, zb, 31), (b1, y.cs, 260)]) := by
            have h := F9.out
            show BK _ _ _
            rw [show genC (byteF y) 32 (8 * 0) = zb from by rw [HZB.out]; exact genC_zero _ _ _]
            exact h
          clear F9
          go_loopw [86] (fun iv wr => ∃ i : Nat, i ≤ 4 ∧ iv = .int .i64 (i : Int) ∧ Hid (BK w wr [(b3, genC (byteF y) 32 (8 * i), 31), (b2, zb, 31), (b1, y.cs, 260)])) (fun i _ => 4 - (intOf i).toNat)
          case atStart => exact ⟨0, Nat.zero_le _, rfl, G9.out⟩
          case round =>
            obtain ⟨i, hi, rfl, hF⟩ := hrel
            clear G9
            by_cases hlt : i < 4
            · have hlt' : (i : Int) < 4 := by omega
              have hi0 : (0 : Int) ≤ (i : Int) := by omega
              have hidx := run_index4 y i hlt
              have HI := Lib.hid hlt
              clear hlt hi
              go_wp2
              go_loopw [90] (fun jv wr => ∃ j : Nat, j ≤ 8 ∧ jv = .int .i64 (j : Int) ∧ Hid (BK w wr [(b3, genC (byteF y) 32 (8 * i + j), 31), (b2, zb, 31), (b1, y.cs, 260)])) (fun j _ => 8 - (intOf j).toNat)
              case atStart => exact ⟨0, Nat.zero_le _, rfl, hF.out⟩
              case round =>
                obtain ⟨j, hj, rfl, hG⟩ := hrel
                clear hF
                by_cases hjl : j < 8
                · have hj8 : (j : Int) < 8 := by omega
                  have hj0 : (0 : Int) ≤ (j : Int) := by omega
                  have hb1 : (8 : Int) * (i : Int) + (j : Int) < 32 := by have := HI.out; omega
                  have hb0 : (0 : Int) ≤ (8 : Int) * (i : Int) + (j : Int) := by omega
                  have hb2 : (8 : Int) * (i : Int) < 32 := by omega
                  have HJ := Lib.hid hjl
                  clear hjl hj
                  go_wp2_with (refine s_set8 hG.out rfl rfl 0 rfl (8 * i + j) (by rw [genC_size]; have := HI.out; have := HJ.out; omega) rfl _ rfl ?_; intro w10 h10; simp only [List.set_cons_zero] at h10; rw [genC_set _ _ _ (by have := HI.out; have := HJ.out; omega) (byteF_val y HJ.out)] at h10; have F10 := Lib.hid h10; clear h10 hG)
                  go_roundw
                  case rel => exact ⟨j + 1, HJ.out, by go_num, F10.out⟩
                  case measure => simp [intOf]; have := HJ.out; omega
                · obtain rfl : j = 8 := by omega
                  have hdj : decide (((8 : Nat) : Int) < 8) = false := by decide
                  go_wp2
                  go_roundw
                  case rel => exact ⟨i + 1, HI.out, by go_num, hG.out⟩
                  case measure => simp [intOf]; have := HI.out; omega
            · obtain rfl : i = 4 := by omega
              have hdi : decide (((4 : Nat) : Int) < 4) = false := by decide
              rw [show genC (byteF y) 32 (8 * 4) = (bvs (genL (byteF y) 32)).toArray from genC_last _ _] at hF
              obtain ⟨l, hl⟩ : ∃ l, l = genL (byteF y) 32 := ⟨_, rfl⟩
              have Hl : Hid (l.length = 32) := by show _ = _; rw [hl]; exact genL_length _ _
              have Hz : Hid (zb.size = 32) := by show _ = _; rw [HZB.out]; exact genC_size _ _ _
              rw [← hl] at hF
              have HLL := Lib.hid hl
              clear hl
              go_wp2_with (first
                | (refine s_load_b rfl rfl l Hl.out rfl (hF.out.lb 0 rfl) ?_)
                | (refine s_store_b hF.out rfl rfl 1 rfl rfl l Hl.out rfl Hz.out ?_; intro w11 h11; have F11 := Lib.hid h11; clear h11 hF))
              exact bodyPost_ret (v := .agg (bvs l).toArray) (by simp [results, Tryz.results200, asAddr]; exact ret32 Hl.out (F11.out.mem (i := 1) rfl)) rfl ⟨by rw [HLL.out], F11.out.below⟩
end Go.Proofs.YtbcpmnnlhdgbhaaGreatDoor
