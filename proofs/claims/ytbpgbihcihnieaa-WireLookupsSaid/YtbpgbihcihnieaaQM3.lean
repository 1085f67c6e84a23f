/- The texts M3 M4 of this work, merged by wip/merge.py. No conditions. -/
import Derived.Test.YtbpgbihcihnieaaQN20
import Derived.Test.YtbpgbihcihnieaaQM1
import Derived.Test.YtbpgbihcihnieaaQN22
namespace Go.Proofs.Ytbpgbihcihnieaa
open Go.RowKit
theorem eq80 (d : Nat) (x y : List UInt8) (hx : x.length = 80) (hy : y.length = 80) (w : World) :
    (Op.equalIn (d + 2) 52 (.agg (bvs x).toArray) (.agg (bvs y).toArray)).run Try.prog w = .ok (x == y) w := by
  have hs : (sizeOf 5).run Try.prog w = .ok 1 w := by kernel_rfl
  have h1 := eqRange (xs := x) (ys := y) d w (by omega) 80 0 (by omega)
  rw [Op.equalIn]
  simp only [Sem.run_bind, run_underlying Try.underlying52, Result.andThen_ok, hs]
  simp only [Std.Legacy.Range.forIn_eq_forIn_range', Std.Legacy.Range.size, Nat.sub_zero, Nat.add_sub_cancel, Nat.div_one]
  refine (congrArg (fun r => Result.andThen r _) h1).trans ?_
  simp only [Result.andThen_ok, List.drop_zero]
  by_cases he : x = y
  · rw [if_pos he]; simp [he]
  · rw [if_neg he]; simp [he]
theorem wpList_load_w {P : Program} {ops : Array Oper} {rest : List Oper} {op : Oper} {a : Act} {w : World} {Q : Exit → Act → World → Prop} (hw : Region.wanted op (yielded ops a.tmps) = true) (ty : TypeId) (x : Operand) (ho : op.op = .load ty x)
    (b o : Nat) (hx : a.eval x = .pointer (some ⟨b, o, none⟩)) (cs : Array Value) (d : TypeDesc) (hc : w.rangeAt b o cs.toList)
    (hu : P.underlying ty = some d) (hd : d.isRow = true) (hi : (P.info? ty).map (·.size) = some cs.size)
    (h : wpList P ops Q rest (a.put op.dst (.agg cs)) w) : wpList P ops Q (op :: rest) a w := by
  unfold wpList
  rw [if_pos hw]
  exact .inl (wp_load_mid ty x ho b o hx cs.toList d hc hu hd (by rw [Array.length_toList]; exact hi) (by rw [Array.toArray_toList]; exact h))
set_option maxRecDepth 100000 in
set_option maxHeartbeats 1000000 in
theorem SameHashes_any (A1 A2 : Option Addr) (n1 n2 c1 c2 : Nat) (bs : List UInt8) (w : World) (h1 : Reads w w.heap.size 32 A1 n1 (bvs bs)) (h2 : Reads w w.heap.size 32 A2 n2 (bvs bs)) (hm : bs.length ≤ 140737488355328) : Calls Try.prog 67 #[.slice A1 n1 c1, .slice A2 n2 c2] w (SamePost w) := by
  have l1 := h1.1
  have l2 := h2.1
  rw [bvs_length] at l1 l2
  obtain ⟨n, hn⟩ : ∃ n, n = n1 := ⟨_, rfl⟩
  obtain rfl : n2 = n := by omega
  subst hn
  have HL : Hid (bs.length = n2 * 32) := l1
  have H1 := Lib.hid h1
  have H2 := Lib.hid h2
  have hmI : (n2 : Int) ≤ 140737488355328 := by omega
  clear h1 h2 hm l1 l2
  go_enter Try.func67, Try.ntmps67
  go_wp2
  go_loopw [13] (fun i wr => ∃ k : Nat, k ≤ n2 ∧ i = .int .i64 (k : Int) ∧ Hid (Below w.heap.size w wr)) (fun i _ => n2 - (intOf i).toNat)
  case atStart => exact ⟨0, Nat.zero_le _, rfl, Below.refl _ _⟩
  case round =>
    obtain ⟨k, hk, rfl, hO⟩ := hrel
    by_cases hlt : k < n2
    · have hlt' : (k : Int) < (n2 : Int) := by omega
      have hk0 : (0 : Int) ≤ (k : Int) := by omega
      obtain ⟨b1, o1, hA1, _, hr1⟩ := flat_open H1.out (by omega) (by decide)
      obtain ⟨b2, o2, hA2, _, hr2⟩ := flat_open H2.out (by omega) (by decide)
      subst hA1 hA2
      obtain ⟨pc, hpc⟩ : ∃ pc : Array Value, pc = (bvs (piece bs 32 k)).toArray := ⟨_, rfl⟩
      have hpl := piece_length (size := 32) HL.out hlt
      have PZ : Hid (pc.size = 32) := by show _ = _; rw [hpc]; simp [bvs_length, hpl]
      have R1 : Hid (∀ w', Below w.heap.size w w' → w'.rangeAt b1 (o1 + k * 32) pc.toList) := fun w' h' => by rw [hpc]; exact flat_range HL.out hlt (hr1 w' h')
      have R2 : Hid (∀ w', Below w.heap.size w w' → w'.rangeAt b2 (o2 + k * 32) pc.toList) := fun w' h' => by rw [hpc]; exact flat_range HL.out hlt (hr2 w' h')
      have HEQ : Hid (∀ w', (Op.equalIn 10000 44 (.agg pc) (.agg pc)).run Try.prog w' = .ok true w') := fun w' => by rw [hpc, eq32 9998 _ _ hpl hpl w']; simp
      have HK := Lib.hid hlt
      clear hpc hpl hr1 hr2
      go_wp2
      refine AnyC.startB (fun w' => Below w.heap.size w w') (by kernel_rfl) rfl ?_
      intro w2 hb2 hs2
      clear hs2
      have B2 := Lib.hid (hO.out.trans (hb2.mono hO.out.size))
      clear hb2
      apply AnyC.take (i := 0) rfl (by kernel_rfl) rfl
      · intro w' hC K hK
        go_wp2
        exact hK
      · rfl
      apply AnyC.take (i := 1) rfl (by kernel_rfl) rfl
      · intro w' hC K hK
        go_wp2
        exact hK
      · rfl
      apply AnyC.take (i := 2) rfl (by kernel_rfl) rfl
      · intro w' hC K hK
        go_wp2
        exact hK
      · rfl
      apply AnyC.take (i := 3) rfl (by kernel_rfl) rfl
      · intro w' hC K hK
        refine wpList_load_arr rfl _ _ rfl b1 (o1 + k * 32) rfl pc _ (R1.out w' hC) Try.underlying44 rfl (by rw [PZ.out]; kernel_rfl) ?_
        go_wp2
        exact hK
      · rfl
      apply AnyC.take (i := 4) rfl (by kernel_rfl) rfl
      · intro w' hC K hK
        go_wp2
        exact hK
      · rfl
      apply AnyC.take (i := 5) rfl (by kernel_rfl) rfl
      · intro w' hC K hK
        go_wp2
        exact hK
      · rfl
      apply AnyC.take (i := 6) rfl (by kernel_rfl) rfl
      · intro w' hC K hK
        go_wp2
        exact hK
      · rfl
      apply AnyC.take (i := 7) rfl (by kernel_rfl) rfl
      · intro w' hC K hK
        refine wpList_load_arr rfl _ _ rfl b2 (o2 + k * 32) rfl pc _ (R2.out w' hC) Try.underlying44 rfl (by rw [PZ.out]; kernel_rfl) ?_
        go_wp2
        exact hK
      · rfl
      apply AnyC.take (i := 8) rfl (by kernel_rfl) rfl
      · intro w' hC K hK
        refine wpList_same false rfl 44 44 _ _ rfl pc rfl rfl (by kernel_rfl) (HEQ.out w') ?_
        go_wp2
        exact hK
      · rfl
      refine AnyC.done B2.out (by kernel_rfl) ?_
      go_wp2
      go_roundw
      case rel => exact ⟨k + 1, HK.out, by go_num, B2.out⟩
      case measure => simp [intOf]; omega
    · obtain rfl : k = n2 := by omega
      go_wp2
      go_ret
      exact ⟨rfl, hO.out⟩
theorem opC_row {w : World} {b : Nat} {p : List UInt8} {v : Value} {t : TypeId} {f : Nat × Nat} (h : w.heap[b]? = some (.cells (opC p v) t f)) (hp : p.length = 80) : w.rangeAt b 0 (bvs p).toArray.toList ∧ w.cell? ⟨b, 80, none⟩ = some v := by
  have hl : (bvs p).length = 80 := by rw [bvs_length, hp]
  refine ⟨fun j u hu => ?_, ?_⟩
  · have hj := some_lt hu (n := 80) (by simpa using hl)
    rw [Nat.zero_add, cell_of_row w b _ _ _ _ h, opC, List.getElem?_toArray, get_left hl hj]
    exact hu
  · rw [cell_of_row w b _ _ _ _ h, opC, List.getElem?_toArray, show 80 = 80 + 0 from rfl, get_right hl]; rfl
theorem two_boxes (w : World) (cs1 cs2 : Array Value) (t : TypeId) : Below w.heap.size w ((w.alloc (.cells cs1 t)).alloc (.cells cs2 t)) ∧ ((w.alloc (.cells cs1 t)).alloc (.cells cs2 t)).heap[w.heap.size]? = some (.cells cs1 t (0, 0)) ∧ ((w.alloc (.cells cs1 t)).alloc (.cells cs2 t)).heap[w.heap.size + 1]? = some (.cells cs2 t (0, 0)) := by
  refine ⟨((Below.refl _ _).alloc (Nat.le_refl _) _).alloc (by simp) _, ?_, ?_⟩
  · rw [Below.heap_alloc _ _ _ (by simp)]
    exact heap_alloc_new w _
  · have h_ := heap_alloc_new (w.alloc (.cells cs1 t)) (.cells cs2 t)
    simpa using h_
set_option maxRecDepth 100000 in
set_option maxHeartbeats 2000000 in
theorem SameOpening_any (p : List UInt8) (hp : p.length = 80) (A1 A2 : Option Addr) (n c1 c2 : Nat) (ns : List NodeV) (w : World) (h1 : Nds w w.heap.size A1 ns) (h2 : Nds w w.heap.size A2 ns) (hn : ns.length = n) (hm : n ≤ 1954687338211) :
    Calls Try.prog 68 #[.agg (opC p (.slice A1 n c1)), .agg (opC p (.slice A2 n c2))] w (SamePost w) := by
  have B := two_boxes w (opC p (.slice A1 n c1)) (opC p (.slice A2 n c2)) 55
  have r1 := opC_row B.2.1 hp
  have r2 := opC_row B.2.2 hp
  obtain ⟨x1, hx1⟩ : ∃ x1, x1 = opC p (.slice A1 n c1) := ⟨_, rfl⟩
  obtain ⟨x2, hx2⟩ : ∃ x2, x2 = opC p (.slice A2 n c2) := ⟨_, rfl⟩
  rw [← hx1, ← hx2] at B r1 r2 ⊢
  obtain ⟨pc, hpc⟩ : ∃ pc : Array Value, pc = (bvs p).toArray := ⟨_, rfl⟩
  rw [← hpc] at r1 r2
  have PZ : Hid (pc.size = 80) := by show _ = _; rw [hpc]; simp [bvs_length, hp]
  have HEQ : Hid (∀ w', (Op.equalIn 10000 52 (.agg pc) (.agg pc)).run Try.prog w' = .ok true w') := fun w' => by rw [hpc, eq80 9998 _ _ hp hp w']; simp
  have R1 := Lib.hid r1.1
  have R2 := Lib.hid r2.1
  have e1 := r1.2
  have e2 := r2.2
  have B0 := Lib.hid B.1
  have H1 := Lib.hid h1
  have H2 := Lib.hid h2
  have HN := Lib.hid hn
  have HM := Lib.hid hm
  clear hp hpc r1 r2 B h1 h2 hn hm hx1 hx2
  go_enter Try.func68, Try.ntmps68
  go_wp2_with (first
    | (refine wpList_load_w (by kernel_rfl) 52 _ rfl w.heap.size 0 rfl pc _ (by with_reducible exact R1.out) Try.underlying52 rfl (by rw [PZ.out]; kernel_rfl) ?_)
    | (refine wpList_load_w (by kernel_rfl) 52 _ rfl (w.heap.size + 1) 0 rfl pc _ (by with_reducible exact R2.out) Try.underlying52 rfl (by rw [PZ.out]; kernel_rfl) ?_)
    | (refine wpList_same true rfl 52 52 _ _ rfl pc rfl rfl (by kernel_rfl) (HEQ.out _) ?_)
    | (go_at_call 75; go_must (refine (SameNodes_any A1 A2 n c1 c2 ns _ ⟨H1.out.1, (H1.out.2.keep fun _ hp => B0.out.cell hp).more B0.out.size⟩ ⟨H2.out.1, (H2.out.2.keep fun _ hp => B0.out.cell hp).more B0.out.size⟩ HN.out HM.out).mono ?_; rintro e w3 ⟨rfl, hb⟩; have B3 := Lib.hid (B0.out.trans (hb.mono B0.out.size)); clear hb)))
  go_ret
  exact ⟨rfl, B3.out⟩
set_option maxRecDepth 100000 in
set_option maxHeartbeats 4000000 in
theorem SameLookup_any (w : World) (cs1 cs2 : Array Value) (q : LookV) (x1 x2 : LookA) (h1 : LookIn w cs1 q x1) (h2 : LookIn w cs2 q x2) : Calls Try.prog 37 #[.agg cs1, .agg cs2] w (SamePost w) := by
  have B := two_boxes w cs1 cs2 57
  have B0 := Lib.hid B.1
  have P1 := Lib.hid B.2.1
  have P2 := Lib.hid B.2.2
  have H1 := Lib.hid h1
  have H2 := Lib.hid h2
  clear B h1 h2
  have RZ : Hid (q.r.cs.size = 163) := root_size H1.out.hok.r
  have HEQ : Hid (∀ w', (Op.equalIn 10000 47 (.agg q.r.cs) (.agg q.r.cs)).run Try.prog w' = .ok true w') := fun w' => eq_root H1.out.hok.r w'
  have OZ : Hid (∀ p v, p.length = 80 → (opC p v).size = 81) := fun p v hp => by simp [opC, bvs_length, hp]
  obtain ⟨X, hX⟩ : ∃ X, X = q.r.cs := ⟨_, rfl⟩
  rw [← hX] at RZ HEQ
  have RW1 : Hid ((((w.alloc (.cells cs1 57)).alloc (.cells cs2 57))).rangeAt w.heap.size 0 X.toList) := by show World.rangeAt _ _ _ _; rw [hX]; exact (H1.out.rows P1.out).1
  have RW2 : Hid ((((w.alloc (.cells cs1 57)).alloc (.cells cs2 57))).rangeAt (w.heap.size + 1) 0 X.toList) := by show World.rangeAt _ _ _ _; rw [hX]; exact (H2.out.rows P2.out).1
  clear hX
  obtain ⟨c1, c2, c3, _, _⟩ := H1.out.at_ P1.out
  obtain ⟨d1, d2, d3, _, _⟩ := H2.out.at_ P2.out
  have T0 : Hid True := trivial
  go_enter Try.func37, Try.ntmps37
  go_wp2_with (first
    | (refine wpList_load_w (by kernel_rfl) 47 _ rfl w.heap.size 0 rfl X _ (by with_reducible exact RW1.out) Try.underlying47 rfl (by rw [RZ.out]; kernel_rfl) ?_)
    | (refine wpList_load_w (by kernel_rfl) 47 _ rfl (w.heap.size + 1) 0 rfl X _ (by with_reducible exact RW2.out) Try.underlying47 rfl (by rw [RZ.out]; kernel_rfl) ?_)
    | (refine wpList_same true rfl 47 47 _ _ rfl X rfl rfl (by kernel_rfl) (HEQ.out _) ?_)
    | (go_at_call 67; go_must (refine (SameHashes_any x1.Ad x2.Ad x1.nd x2.nd x1.cd x2.cd q.dv _ ((H1.out.hdv.keep fun _ hp => B0.out.cell hp).more B0.out.size) ((H2.out.hdv.keep fun _ hp => B0.out.cell hp).more B0.out.size) H1.out.hdl).mono ?_; rintro e w3 ⟨rfl, hb⟩; have B3 := Lib.hid (B0.out.trans (hb.mono B0.out.size)); have P13 := Lib.hid (heap_below P1.out hb); have P23 := Lib.hid (heap_below P2.out hb); have F13 := Lib.hid (H1.out.rows P13.out).2.1; have F23 := Lib.hid (H2.out.rows P23.out).2.1; clear hb))
    | (refine wpList_load_w (by kernel_rfl) 55 _ rfl w.heap.size 166 rfl (opC q.fp (.slice x1.Af q.fn.length x1.cf)) _ (by with_reducible exact F13.out) Try.underlying55 rfl (by rw [OZ.out _ _ H1.out.hok.fp]; kernel_rfl) ?_)
    | (refine wpList_load_w (by kernel_rfl) 55 _ rfl (w.heap.size + 1) 166 rfl (opC q.fp (.slice x2.Af q.fn.length x2.cf)) _ (by with_reducible exact F23.out) Try.underlying55 rfl (by rw [OZ.out _ _ H1.out.hok.fp]; kernel_rfl) ?_)
    | (go_at_call 68; have hx_ := T1; go_must (refine (SameOpening_any q.sp H1.out.hok.sp x1.As x2.As q.sn.length x1.cs x2.cs q.sn w4 ⟨H1.out.hok.sn, (H1.out.hsn.keep fun _ hp => B4.out.cell hp).more B4.out.size⟩ ⟨H1.out.hok.sn, (H2.out.hsn.keep fun _ hp => B4.out.cell hp).more B4.out.size⟩ rfl H1.out.hsl).mono ?_; rintro e w5 ⟨rfl, hb⟩; have B5 := Lib.hid (B4.out.trans (hb.mono B4.out.size)); clear hb T1 hx_))
    | (go_at_call 68; have hx_ := T0; go_must (refine (SameOpening_any q.fp H1.out.hok.fp x1.Af x2.Af q.fn.length x1.cf x2.cf q.fn w3 ⟨H1.out.hok.fn, (H1.out.hfn.keep fun _ hp => B3.out.cell hp).more B3.out.size⟩ ⟨H1.out.hok.fn, (H2.out.hfn.keep fun _ hp => B3.out.cell hp).more B3.out.size⟩ rfl H1.out.hfl).mono ?_; rintro e w4 ⟨rfl, hb⟩; have B4 := Lib.hid (B3.out.trans (hb.mono B3.out.size)); have P14 := Lib.hid (heap_below P13.out hb); have P24 := Lib.hid (heap_below P23.out hb); have F14 := Lib.hid (H1.out.rows P14.out).2.2; have F24 := Lib.hid (H2.out.rows P24.out).2.2; have T1 := hx_; clear hb T0 hx_))
    | (refine wpList_load_w (by kernel_rfl) 55 _ rfl w.heap.size 247 rfl (opC q.sp (.slice x1.As q.sn.length x1.cs)) _ (by with_reducible exact F14.out) Try.underlying55 rfl (by rw [OZ.out _ _ H1.out.hok.sp]; kernel_rfl) ?_)
    | (refine wpList_load_w (by kernel_rfl) 55 _ rfl (w.heap.size + 1) 247 rfl (opC q.sp (.slice x2.As q.sn.length x2.cs)) _ (by with_reducible exact F24.out) Try.underlying55 rfl (by rw [OZ.out _ _ H1.out.hok.sp]; kernel_rfl) ?_))
  go_ret
  exact ⟨rfl, B5.out⟩
end Go.Proofs.Ytbpgbihcihnieaa

namespace Go.Proofs.Ytbpgbihcihnieaa
open Go.RowKit
def lookC (r : RootV) (s : List UInt8) (v : Nat) (D : Value) (p : List UInt8) (F : Value) (p2 : List UInt8) (S : Value) : Array Value := (r.vs ++ (.string ⟨s.toArray⟩ :: .int .u64 (v : Int) :: D :: (bvs p ++ (F :: (bvs p2 ++ [S]))))).toArray
def z80 : List UInt8 := List.replicate 80 0
theorem z80_len : z80.length = 80 := by decide
def lookZ : Array Value := lookC rootZ [] 0 (.slice none 0 0) z80 (.slice none 0 0) z80 (.slice none 0 0)
theorem hz57 : ∀ w, (zeroValue 57).run Try.prog w = .ok (.agg lookZ) w := fun w => by kernel_rfl
section
variable {r r' : RootV} {s s' : List UInt8} {v v' : Nat} {D D' F F' S S' : Value} {p p2 x : List UInt8}
theorem lookC_list : (lookC r s v D p F p2 S).toList = r.vs ++ ([.string ⟨s.toArray⟩, .int .u64 (v : Int), D] ++ (bvs p ++ ([F] ++ (bvs p2 ++ ([S] ++ []))))) := by simp [lookC]
theorem lookC_size (hr : r.ok) (hp : p.length = 80) (hp2 : p2.length = 80) : (lookC r s v D p F p2 S).size = 328 := by simp [lookC, vs_root hr, bvs_length, hp, hp2]
theorem set_mid {pre post : List Value} {a b : Value} {i : Nat} (h : pre.length = i) : (pre ++ ([a] ++ post)).set i b = pre ++ ([b] ++ post) := by
  subst h
  simp
theorem lookC_set (hr : r.ok) (hp : p.length = 80) (hp2 : p2.length = 80) : (lookC r s v D p F p2 S).setIfInBounds 163 (.string ⟨s'.toArray⟩) = lookC r s' v D p F p2 S ∧ (lookC r s v D p F p2 S).setIfInBounds 164 (.int .u64 (v' : Int)) = lookC r s v' D p F p2 S ∧ (lookC r s v D p F p2 S).setIfInBounds 165 D' = lookC r s v D' p F p2 S ∧
    (lookC r s v D p F p2 S).setIfInBounds 246 F' = lookC r s v D p F' p2 S ∧ (lookC r s v D p F p2 S).setIfInBounds 327 S' = lookC r s v D p F p2 S' := by
  have h1 := vs_root hr
  have h2 : (bvs p).length = 80 := by rw [bvs_length, hp]
  have h3 : (bvs p2).length = 80 := by rw [bvs_length, hp2]
  refine ⟨?_, ?_, ?_, ?_, ?_⟩
  all_goals
    apply Array.toList_inj.1
    rw [Array.toList_setIfInBounds, lookC_list, lookC_list]
  · exact set_mid (pre := r.vs) (a := .string ⟨s.toArray⟩) (post := [.int .u64 (v : Int), D] ++ (bvs p ++ ([F] ++ (bvs p2 ++ ([S] ++ []))))) h1
  · have := set_mid (pre := r.vs ++ [.string ⟨s.toArray⟩]) (a := .int .u64 (v : Int)) (b := .int .u64 (v' : Int)) (post := [D] ++ (bvs p ++ ([F] ++ (bvs p2 ++ ([S] ++ []))))) (i := 164) (by simp [h1])
    simpa using this
  · have := set_mid (pre := r.vs ++ [.string ⟨s.toArray⟩, .int .u64 (v : Int)]) (a := D) (b := D') (post := bvs p ++ ([F] ++ (bvs p2 ++ ([S] ++ [])))) (i := 165) (by simp [h1])
    simpa using this
  · have := set_mid (pre := r.vs ++ ([.string ⟨s.toArray⟩, .int .u64 (v : Int), D] ++ bvs p)) (a := F) (b := F') (post := bvs p2 ++ ([S] ++ [])) (i := 246) (by simp [h1, h2])
    simpa using this
  · have := set_mid (pre := r.vs ++ ([.string ⟨s.toArray⟩, .int .u64 (v : Int), D] ++ (bvs p ++ ([F] ++ bvs p2)))) (a := S) (b := S') (post := []) (i := 327) (by simp [h1, h2, h3])
    simpa using this
theorem put_seg {pre post : List Value} {off n : Nat} {L : List Value} {x p : List UInt8} (hL : L = pre ++ (bvs p ++ post)) (h1 : pre.length = off) (h2 : p.length = n) : L.take off ++ bvs (x.take n) ++ L.drop (off + Nat.min x.length n) = pre ++ (bvs (x.take n ++ p.drop (Nat.min x.length n)) ++ post) := by
  subst hL h1 h2
  have h3 : (bvs p).length = p.length := bvs_length p
  have h4 : Nat.min x.length p.length ≤ p.length := Nat.min_le_right _ _
  rw [List.take_left, List.drop_append, bvs_append, List.drop_eq_nil_of_le (by omega : pre.length ≤ pre.length + Nat.min x.length p.length), List.nil_append, show pre.length + Nat.min x.length p.length - pre.length = Nat.min x.length p.length from by omega, List.drop_append_of_le_length (by omega)]
  simp [bvs, List.append_assoc]
/-- The bytes that a copy leaves. -/
def put80 (x p : List UInt8) : List UInt8 := x.take 80 ++ p.drop (Nat.min x.length 80)
theorem put80_len (hp : p.length = 80) : (put80 x p).length = 80 := by
  have h4 : Nat.min x.length 80 = min x.length 80 := rfl
  unfold put80
  rw [List.length_append, List.length_take, List.length_drop, h4, hp]
  omega
theorem put80_all (hx : x.length = 80) (hp : p.length = 80) : put80 x p = x := by
  unfold put80
  rw [hx, show Nat.min 80 80 = 80 from rfl, List.take_of_length_le (by omega), List.drop_eq_nil_of_le (by omega), List.append_nil]
theorem lookC_fp (hr : r.ok) (hp : p.length = 80) : ((lookC r s v D p F p2 S).toList.take 166 ++ bvs (x.take 80) ++ (lookC r s v D p F p2 S).toList.drop (166 + Nat.min x.length 80)).toArray = lookC r s v D (put80 x p) F p2 S := by
  rw [put_seg (off := 166) (n := 80) (p := p) (pre := r.vs ++ [.string ⟨s.toArray⟩, .int .u64 (v : Int), D]) (post := [F] ++ (bvs p2 ++ ([S] ++ []))) (by rw [lookC_list, List.append_assoc]) (by simp [vs_root hr]) hp]
  apply Array.toList_inj.1
  rw [lookC_list]
  simp [put80]
theorem lookC_sp (hr : r.ok) (hp : p.length = 80) (hp2 : p2.length = 80) : ((lookC r s v D p F p2 S).toList.take 247 ++ bvs (x.take 80) ++ (lookC r s v D p F p2 S).toList.drop (247 + Nat.min x.length 80)).toArray = lookC r s v D p F (put80 x p2) S := by
  rw [put_seg (off := 247) (n := 80) (p := p2) (pre := r.vs ++ ([.string ⟨s.toArray⟩, .int .u64 (v : Int), D] ++ (bvs p ++ [F]))) (post := [S] ++ []) (by rw [lookC_list]; simp) (by simp [vs_root hr, bvs_length, hp]) hp2]
  apply Array.toList_inj.1
  rw [lookC_list]
  simp [put80]
theorem lookC_at (hr : r.ok) (hp : p.length = 80) (hp2 : p2.length = 80) : (lookC r s v D p F p2 S)[163]? = some (.string ⟨s.toArray⟩) ∧ (lookC r s v D p F p2 S)[164]? = some (.int .u64 (v : Int)) ∧ (lookC r s v D p F p2 S)[165]? = some D ∧ (lookC r s v D p F p2 S)[246]? = some F ∧ (lookC r s v D p F p2 S)[327]? = some S := by
  have h1 := vs_root hr
  have h2 : (bvs p).length = 80 := by rw [bvs_length, hp]
  have h3 : (bvs p2).length = 80 := by rw [bvs_length, hp2]
  have g : ∀ i k u, i = 163 + k → (.string ⟨s.toArray⟩ :: .int .u64 (v : Int) :: D :: (bvs p ++ (F :: (bvs p2 ++ [S]))) : List Value)[k]? = some u → (lookC r s v D p F p2 S)[i]? = some u := fun i k u hi h => by
    rw [hi, lookC, List.getElem?_toArray, get_right h1]; exact h
  refine ⟨g _ 0 _ rfl rfl, g _ 1 _ rfl rfl, g _ 2 _ rfl rfl, g _ 83 _ rfl ?_, g _ 164 _ rfl ?_⟩
  · rw [show 83 = 80 + 0 + 3 from rfl]
    show (bvs p ++ _)[80 + 0]? = _
    rw [get_right h2]; rfl
  · rw [show 164 = 80 + (80 + 0 + 1) + 3 from rfl]
    show (bvs p ++ _)[80 + (80 + 0 + 1)]? = _
    rw [get_right h2]
    show (bvs p2 ++ _)[80 + 0]? = _
    rw [get_right h3]; rfl
theorem lookC_one (hs : ∀ u, u ∈ [D, F, S] → u.oneCell' = true) : ((lookC r s v D p F p2 S).all fun x => x.oneCell') = true := by
  refine Array.all_eq_true'.2 fun u hu => ?_
  simp only [lookC, List.mem_toArray, List.mem_append, List.mem_cons, List.not_mem_nil, or_false] at hu
  have hb : ∀ l : List UInt8, u ∈ bvs l → u.oneCell' = true := fun l hl => by
    obtain ⟨y, _, rfl⟩ := List.mem_map.1 hl; rfl
  rcases hu with h | rfl | rfl | rfl | h | rfl | h | rfl
  · exact Array.all_eq_true'.1 (root_one (r := r)) u (by simpa [RootV.cs] using h)
  · rfl
  · rfl
  · exact hs _ (by simp)
  · exact hb _ h
  · exact hs _ (by simp)
  · exact hb _ h
  · exact hs _ (by simp)
theorem lookC_root {w : World} {b : Nat} {t : TypeId} (hr : r.ok) (hr' : r'.ok) (h : w.heap[b]? = some (.cells (lookC r s v D p F p2 S) t (0, 0))) : (w.setCells b 0 r'.cs.toList).heap[b]? = some (.cells (lookC r' s v D p F p2 S) t (0, 0)) :=
  heap_setCells r'.vs [] r.vs _ 0 w rfl (by rw [vs_root hr, vs_root hr']) h
end
theorem look_one {r : RootV} {s p p2 : List UInt8} {v : Nat} {Ad Af As : Option Addr} {nd cd nf cf ns cs : Nat} : ((lookC r s v (.slice Ad nd cd) p (.slice Af nf cf) p2 (.slice As ns cs)).all fun x => x.oneCell') = true :=
  lookC_one (by intro u hu; simp only [List.mem_cons, List.not_mem_nil, or_false] at hu; rcases hu with rfl | rfl | rfl <;> rfl)
set_option maxRecDepth 100000 in
theorem built_look0 (ps : List (Nat × Value)) : (Try.prog).built 57 ps = Instr.fill ([(0, 163), (163, 1), (164, 1), (165, 1), (166, 81), (247, 81)].toArray[·]?) lookZ ps := by kernel_rfl
theorem built_look {r : RootV} (hr : r.ok) {s : List UInt8} {v : Nat} {Ad : Option Addr} {nd cd : Nat} : (Try.prog).built 57 [(0, .agg r.cs), (1, .string ⟨s.toArray⟩), (2, .int .u64 (v : Int)), (3, .slice Ad nd cd)] = some (lookC r s v (.slice Ad nd cd) z80 (.slice none 0 0) z80 (.slice none 0 0)) := by
  have hl := vs_root hr
  have hz := vs_root rootZ_ok
  obtain ⟨T, hT⟩ : ∃ T : List Value, T = bvs z80 ++ (Value.slice none 0 0 :: (bvs z80 ++ [Value.slice none 0 0])) := ⟨_, rfl⟩
  have hZ : lookZ = (rootZ.vs ++ (.string ⟨([] : List UInt8).toArray⟩ :: .int .u64 ((0 : Nat) : Int) :: .slice none 0 0 :: T)).toArray := by rw [hT]; rfl
  have hC : lookC r s v (.slice Ad nd cd) z80 (.slice none 0 0) z80 (.slice none 0 0) = (r.vs ++ (.string ⟨s.toArray⟩ :: .int .u64 (v : Int) :: .slice Ad nd cd :: T)).toArray := by rw [hT]; rfl
  rw [built_look0, hC]
  refine (fill_seg [] rootZ.vs r.vs (.string ⟨([] : List UInt8).toArray⟩ :: .int .u64 ((0 : Nat) : Int) :: .slice none 0 0 :: T) (by rw [hZ]; simp) rfl (by rw [hl]; rfl) (by rw [hl, hz])).trans ?_
  refine (fill_seg ([] ++ r.vs) [.string ⟨([] : List UInt8).toArray⟩] [.string ⟨s.toArray⟩] (.int .u64 ((0 : Nat) : Int) :: .slice none 0 0 :: T) (by simp) rfl (by rw [List.nil_append, hl]; rfl) rfl).trans ?_
  refine (fill_seg ([] ++ r.vs ++ [.string ⟨s.toArray⟩]) [.int .u64 ((0 : Nat) : Int)] [.int .u64 (v : Int)] (.slice none 0 0 :: T) (by simp) rfl (by simp [hl]) rfl).trans ?_
  refine (fill_seg ([] ++ r.vs ++ [.string ⟨s.toArray⟩, .int .u64 (v : Int)]) [.slice none 0 0] [.slice Ad nd cd] T (by simp) rfl (by simp [hl]) rfl).trans ?_
  rw [Instr.fill]
  congr 1
  simp
theorem ret57r {wr : World} {b : Nat} {cs : Array Value} {t : TypeId} {f : Nat × Nat} (h : wr.heap[b]? = some (.cells cs t f)) (hs : cs.size = 328) :
    (loadVar 57 ⟨b, 0, none⟩).run Try.prog wr = .ok (.agg cs) wr := by
  have h1 := run_loadVar_mid (P := Try.prog) wr b 0 57 cs.toList _ (range_row h) Try.underlying57 rfl (by rw [Array.length_toList, hs]; kernel_rfl)
  rw [Array.toArray_toList] at h1
  exact h1
def lookOK (v p s d n m : List UInt8) : Bool := decide (v.length = 8) && decide (p.length = 80) && decide (s.length = 80) && decide (d.length % 32 = 0) && nodesOK n && nodesOK m
def lookO : Option (List (List UInt8)) → Option LookV
  | some [x, a, v, d, p, n, s, m] => match rootD x with
    | some r => if lookOK v p s d n m then some ⟨r, a, numV v, d, p, nodesOf n, s, nodesOf m⟩ else none
    | none => none
  | _ => none
def lookD (b : List UInt8) : Option LookV := lookO (openV b lookW 8)
def lookZV : LookV := ⟨rootZ, [], 0, [], z80, [], z80, []⟩
def lookR (b : List UInt8) : LookV := (lookD b).getD lookZV
def lookF (b : List UInt8) : Int := if (lookD b).isSome then 0 else 2
theorem lookF_cases (b : List UInt8) : lookF b = 0 ∨ lookF b = 2 := by unfold lookF; split <;> simp
theorem lookR_some {b : List UInt8} {q : LookV} (h : lookD b = some q) : lookR b = q ∧ lookF b = 0 := by unfold lookR lookF; rw [h]; exact ⟨rfl, rfl⟩
theorem lookR_none {b : List UInt8} (h : lookD b = none) : lookR b = lookZV ∧ lookF b = 2 := by unfold lookR lookF; rw [h]; exact ⟨rfl, rfl⟩
theorem lookR_of {b : List UInt8} (h : lookF b = 0) : lookD b = some (lookR b) := by
  unfold lookF at h
  unfold lookR
  cases hd : lookD b with
  | none => rw [hd] at h; cases h
  | some q => rfl
theorem eight_of {ls : List (List UInt8)} (h : ls.length = 8) : ∃ x a v d p n s m, ls = [x, a, v, d, p, n, s, m] := by
  match ls, h with
  | [x, a, v, d, p, n, s, m], _ => exact ⟨x, a, v, d, p, n, s, m, rfl⟩
theorem lookE_cases (q : LookV) : lookE q = 0 ∨ lookE q = 1 ∨ lookE q = 6 := by
  unfold lookE encE
  split
  · split
    · exact .inl rfl
    · exact .inr (.inr rfl)
  · exact .inr (.inl rfl)
theorem look_ok {q : LookV} (h : lookE q = 0) : lookG q = true ∧ encOK (lookL q) = true := by
  unfold lookE encE at h
  split at h
  · rename_i hg
    split at h
    · rename_i ho; exact ⟨hg, ho⟩
    · cases h
  · cases h
theorem look_forth {q : LookV} (hq : q.ok) (hd : q.dv.length % 32 = 0) (h : lookE q = 0) : lookD (lookB q) = some q := by
  obtain ⟨hg, ho⟩ := look_ok h
  have hg2 : nodesG q.fn = true ∧ nodesG q.sn = true := by simpa [lookG] using hg
  have h2 := nodes_forth hq.fn hg2.1
  have h3 := nodes_forth hq.sn hg2.2
  have h4 := num_be8 q.v hq.v
  unfold lookD lookB
  rw [if_pos hg, show lookL q = lookW :: [signB q.r, q.a, be8 q.v, q.dv, q.fp, nodesB q.fn, q.sp, nodesB q.sn] from rfl, openV_enc (n := 8) (ls := [signB q.r, q.a, be8 q.v, q.dv, q.fp, nodesB q.fn, q.sp, nodesB q.sn]) rfl ho]
  unfold lookO
  simp only [root_dec_enc hq.r]
  rw [if_pos (by simp [lookOK, be8_length, hq.fp, hq.sp, hd, h2.1, h3.1]), h2.2, h3.2, h4.1]
theorem look_none {q : LookV} (h : lookE q ≠ 0) : lookB q = [] := by
  unfold lookE encE at h
  unfold lookB
  by_cases hg : lookG q = true
  · rw [if_pos hg] at h ⊢
    by_cases ho : encOK (lookL q) = true
    · rw [if_pos ho] at h; exact absurd rfl h
    · exact encB_no (by simpa using ho)
  · rw [if_neg hg]
theorem look_back {b : List UInt8} {q : LookV} (h : lookD b = some q) :
    lookB q = b ∧ lookE q = 0 ∧ q.ok ∧ q.dv.length % 32 = 0 ∧ q.fn.length ≤ 1048576 ∧ q.sn.length ≤ 1048576 ∧ q.dv.length ≤ 1048576 ∧ q.a.length ≤ 1048576 := by
  unfold lookD at h
  cases h1 : openV b lookW 8 with
  | none => rw [h1] at h; cases h
  | some ls =>
    rw [h1] at h
    obtain ⟨x, a, v, d, p, n, s, m, rfl⟩ := eight_of (openV_length h1)
    have hle := openV_le2 h1
    cases h2 : rootD x with
    | none => unfold lookO at h; simp only [h2] at h; cases h
    | some r' =>
      unfold lookO at h
      simp only [h2] at h
      split at h
      · rename_i hc
        simp only [lookOK, Bool.and_eq_true, decide_eq_true_eq] at hc
        obtain ⟨⟨⟨⟨⟨hv, hp⟩, hs⟩, hd⟩, hn⟩, hm⟩ := hc
        cases h
        have hb := nodes_back hn
        have hb2 := nodes_back hm
        have hr := root_enc_dec h2
        have hL : lookL ⟨r', a, numV v, d, p, nodesOf n, s, nodesOf m⟩ = lookW :: [x, a, v, d, p, n, s, m] := by unfold lookL; simp only; rw [hr.1, hb.2, hb2.2, be8_num hv]
        have hG : lookG ⟨r', a, numV v, d, p, nodesOf n, s, nodesOf m⟩ = true := by simp [lookG, hb.1, hb2.1]
        obtain ⟨hv2, he⟩ := openV_list h1
        have hok := (dec_enc he).1
        rw [hv2] at hok
        refine ⟨?_, ?_, ⟨hr.2, numV_lt _, hp, hs, nodesOf_ok n, nodesOf_ok m⟩, hd, ?_, ?_, hle _ (by simp), hle _ (by simp)⟩
        · unfold lookB; rw [if_pos hG, hL]; exact openV_dec h1
        · unfold lookE; rw [if_pos hG, hL]; exact encE_ok hok
        · have h3 := nodesOf_len n
          have h4 := hle n (by simp)
          show (nodesOf n).length ≤ _
          omega
        · have h3 := nodesOf_len m
          have h4 := hle m (by simp)
          show (nodesOf m).length ≤ _
          omega
      · cases h
theorem lookB_le {q : LookV} : (lookB q).length ≤ 1048576 := by
  unfold lookB
  split
  · cases hk : encOK (lookL q) with
    | false => rw [encB_no hk]; simp
    | true =>
      rw [encB_ok hk, List.length_append, be4_length, members_length]
      have : (lookL q).length ≤ 65536 ∧ 4 + bulk (lookL q) ≤ 1048576 := by simpa [encOK] using hk
      exact this.2
  · simp
/-- What DecodeLookup leaves: a lookup that may be read. -/
def LDP (b : List UInt8) (w : World) (e : Ending) (w' : World) : Prop :=
  ∃ (cs : Array Value) (x : LookA), e = .returned (.tuple #[.agg cs, .int .i64 (lookF b)]) ∧ LookIn w' cs (lookR b) x ∧ (cs.all fun x => x.oneCell') = true ∧ Below w.heap.size w w'
theorem LDP.no {b : List UInt8} {w w' : World} {e : Ending} (hD : lookD b = none) (he : e = .returned (.tuple #[.agg lookZ, .int .i64 2])) (hb : Below w.heap.size w w') : LDP b w e w' := by
  have h1 := lookR_none hD
  refine ⟨lookZ, ⟨none, none, none, 0, 0, 0, 0⟩, by rw [h1.2]; exact he, ?_, look_one, hb⟩
  rw [h1.1]
  exact ⟨rfl, ⟨rootZ_ok, by decide, z80_len, z80_len, (fun _ h => by cases h), (fun _ h => by cases h)⟩, reads_none _ _ _, by show 0 ≤ _; omega, reads_none _ _ _, by show 0 ≤ _; omega, reads_none _ _ _, by show 0 ≤ _; omega, by show 0 ≤ _; omega⟩
theorem LDP.yes {b : List UInt8} {q : LookV} {w w' : World} {e : Ending} {Ad Af As : Option Addr} {nd cd nf cf ns cs : Nat} {B1 B2 B3 : Nat} (hD : lookD b = some q) (he : e = .returned (.tuple #[.agg (lookC q.r q.a q.v (.slice Ad nd cd) q.fp (.slice Af nf cf) q.sp (.slice As ns cs)), .int .i64 0]))
    (h1 : w'.ownsRow B1 44 32 (.slice Ad nd cd) nd (bvs q.dv)) (h2 : w'.ownsRow B2 118 65 (.slice Af nf cf) q.fn.length (nodesV q.fn)) (h3 : w'.ownsRow B3 118 65 (.slice As ns cs) q.sn.length (nodesV q.sn)) (hb : Below w.heap.size w w') : LDP b w e w' := by
  have k := lookR_some hD
  obtain ⟨_, _, k1, k2, k3, k4, k5, k6⟩ := look_back hD
  obtain ⟨_, _, e1, _, r1⟩ := ownR_form h1
  obtain ⟨_, _, e2, _, r2⟩ := ownR_form h2
  obtain ⟨_, _, e3, _, r3⟩ := ownR_form h3
  injection e1 with e1a e1b e1c
  injection e2 with e2a e2b e2c
  injection e3 with e3a e3b e3c
  subst e1a e2a e2b e3a e3b
  refine ⟨_, ⟨Ad, Af, As, nd, cd, cf, cs⟩, by rw [k.2]; exact he, ?_, look_one, hb⟩
  rw [k.1]
  exact ⟨rfl, k1, r1, by show q.dv.length ≤ _; omega, r2, by show q.fn.length ≤ _; omega, r3, by show q.sn.length ≤ _; omega, by show q.a.length ≤ _; omega⟩
theorem LookIn.forth {w : World} {cs : Array Value} {q : LookV} {x : LookA} (h : LookIn w cs q x) (hE : lookE q = 0) : lookR (lookB q) = q ∧ lookF (lookB q) = 0 := by
  refine lookR_some (look_forth h.hok ?_ hE)
  have h1 := h.hdv.1
  rw [bvs_length] at h1
  omega
end Go.Proofs.Ytbpgbihcihnieaa
