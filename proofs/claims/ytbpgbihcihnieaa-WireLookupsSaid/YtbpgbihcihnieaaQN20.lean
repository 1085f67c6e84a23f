/- The texts N20 N21 of this work, merged by wip/merge.py. No conditions. -/
import Derived.Test.YtbpgbihcihnieaaQN19
import Derived.Test.YtbpgbihcihnieaaQV11
namespace Go.Proofs.Ytbpgbihcihnieaa
open Go.RowKit
theorem partInt (xs : Array Value) (i : Nat) (v : Value) (w : World) (h : xs[i]? = some v) : (part 3 xs i).run Try.prog w = .ok v w := by
  have h1 : (isAgg 3).run Try.prog w = .ok false w := by kernel_rfl
  simp [part, Sem.run_bind, h1, h]
theorem node_fields : ((Try.prog).fieldsOf 118).toList.map (fun f => (f.name, f.type, f.offset)) = [("Len", 3, 0), ("Prefix", 44, 1), ("Hash", 44, 33)] := by kernel_rfl
theorem eq_node {v : NodeV} (hv : v.ok) (w : World) : (Op.equalIn 10000 118 (.agg v.cs) (.agg v.cs)).run Try.prog w = .ok true w := by
  rw [run_equalIn_struct w 9999 118 v.cs v.cs (by kernel_rfl) (by kernel_rfl)]
  refine eqFields_same 9999 v.cs w _ ?_
  rw [node_fields]
  have a32 : (isAgg 44).run Try.prog w = .ok true w := by kernel_rfl
  have s32 : (sizeOf 44).run Try.prog w = .ok 32 w := by kernel_rfl
  have eu : (Op.equalIn 9999 3 (.int .i64 v.n) (.int .i64 v.n)).run Try.prog w = .ok true w := by
    rw [run_equalIn_int w 9998 _ _ _ _ _ Try.underlying3]; simp
  have e32 : ∀ l : List UInt8, l.length = 32 → (Op.equalIn 9999 44 (.agg (bvs l).toArray) (.agg (bvs l).toArray)).run Try.prog w = .ok true w := fun l hl => by
    rw [eq32 9997 l l hl hl w]; simp
  have p1 : v.cs.extract 1 (1 + 32) = (bvs v.p).toArray := extract_seg (pre := [.int .i64 v.n]) (post := bvs v.h) rfl rfl (by rw [bvs_length, hv.p])
  have p33 : v.cs.extract 33 (33 + 32) = (bvs v.h).toArray := extract_seg (pre := [.int .i64 v.n] ++ bvs v.p) (post := []) (by rw [List.append_nil, List.append_assoc]; rfl) (by rw [List.length_append, bvs_length, hv.p]; rfl) (by rw [bvs_length, hv.h])
  intro p hp
  simp only [List.mem_cons, List.not_mem_nil, or_false] at hp
  rcases hp with rfl | rfl | rfl
  · exact ⟨by decide, _, partInt v.cs 0 _ w rfl, eu⟩
  · exact ⟨by decide, _, partRow 32 _ v.cs 1 v.p w a32 s32 p1, e32 v.p hv.p⟩
  · exact ⟨by decide, _, partRow 32 _ v.cs 33 v.h w a32 s32 p33, e32 v.h hv.h⟩
theorem wpList_same {P : Program} {ops : Array Oper} {rest : List Oper} {o : Oper} {a : Act} {w : World} {Q : Exit → Act → World → Prop} (eq : Bool) (hg : o.guard = none) (t t2 : TypeId) (x y : Operand) (ho : o.op = .binOp (if eq then .eql else .neq) t x y t2) (cs : Array Value) (hx : a.eval x = .agg cs) (hy : a.eval y = .agg cs)
    (hgt : P.eqGuardType P.depth t = false) (he : (Op.equalIn 10000 t (.agg cs) (.agg cs)).run P w = .ok true w) (h : wpList P ops Q rest (a.put o.dst (.bool eq)) w) : wpList P ops Q (o :: rest) a w := by
  refine wpList_plain hg fun _ hK => ?_
  have h2 := hK _ _ h
  unfold Oper.wp execOp
  cases eq
  · simp only [Bool.false_eq_true, if_false] at ho
    simp only [ho, hx, hy, Sem.run_bind, run_eqGuard_agg w _ t x y cs cs hgt, Result.andThen_ok, run_neq_struct, he, Bool.not_true]
    exact h2
  · simp only [if_true] at ho
    simp only [ho, hx, hy, Sem.run_bind, run_eqGuard_agg w _ t x y cs cs hgt, Result.andThen_ok, run_eql_struct, he]
    exact h2
def SamePost (w : World) (e : Ending) (w' : World) : Prop := e = .returned (.bool true) ∧ Below w.heap.size w w'
set_option maxRecDepth 100000 in
set_option maxHeartbeats 1000000 in
theorem SameNodes_any (A1 A2 : Option Addr) (n c1 c2 : Nat) (ns : List NodeV) (w : World) (h1 : Nds w w.heap.size A1 ns) (h2 : Nds w w.heap.size A2 ns) (hn : ns.length = n) (hm : n ≤ 1954687338211) : Calls Try.prog 75 #[.slice A1 n c1, .slice A2 n c2] w (SamePost w) := by
  have H1 := Lib.hid h1
  have H2 := Lib.hid h2
  have HN := Lib.hid hn
  have hmI : (n : Int) ≤ 1954687338211 := by omega
  clear h1 h2 hn hm
  go_enter Try.func75, Try.ntmps75
  go_wp2
  go_loopw [13] (fun i wr => ∃ k : Nat, k ≤ n ∧ i = .int .i64 (k : Int) ∧ Hid (Below w.heap.size w wr)) (fun i _ => n - (intOf i).toNat)
  case atStart => exact ⟨0, Nat.zero_le _, rfl, Below.refl _ _⟩
  case round =>
    obtain ⟨k, hk, rfl, hO⟩ := hrel
    by_cases hlt : k < n
    · have hlt' : (k : Int) < (n : Int) := by omega
      have hk0 : (0 : Int) ≤ (k : Int) := by omega
      have hkn : k < ns.length := by rw [HN.out]; exact hlt
      obtain ⟨b1, o1, hA1, _, hr1⟩ := H1.out.open_ (by omega)
      obtain ⟨b2, o2, hA2, _, hr2⟩ := H2.out.open_ (by omega)
      subst hA1 hA2
      have hok := H1.out.1 _ (List.getElem_mem hkn)
      obtain ⟨pc, hpc⟩ : ∃ pc : Array Value, pc = (ns[k]).cs := ⟨_, rfl⟩
      have PZ : Hid (pc.size = 65) := by show _ = _; rw [hpc]; exact node_size hok
      have R1 : Hid (∀ w', Below w.heap.size w w' → w'.rangeAt b1 (o1 + k * 65) pc.toList) := fun w' h' => by rw [hpc]; exact hr1 w' h' k hkn
      have R2 : Hid (∀ w', Below w.heap.size w w' → w'.rangeAt b2 (o2 + k * 65) pc.toList) := fun w' h' => by rw [hpc]; exact hr2 w' h' k hkn
      have HEQ : Hid (∀ w', (Op.equalIn 10000 118 (.agg pc) (.agg pc)).run Try.prog w' = .ok true w') := fun w' => by rw [hpc]; exact eq_node hok w'
      have HK := Lib.hid hlt
      clear hpc hok hr1 hr2
      go_wp2
      refine AnyC.startB (fun w' => Below w.heap.size w w') (by kernel_rfl) rfl ?_
      intro w2 hb2 hs2
      clear hs2
      have B2 := Lib.hid (hO.out.trans (hb2.mono hO.out.size))
      clear hb2
      apply AnyC.take (i := 0) rfl (by kernel_rfl) rfl
      · intro w' hC K hK
        go_wp2
        exact hK
      · rfl
      apply AnyC.take (i := 1) rfl (by kernel_rfl) rfl
      · intro w' hC K hK
        go_wp2
        exact hK
      · rfl
      apply AnyC.take (i := 2) rfl (by kernel_rfl) rfl
      · intro w' hC K hK
        go_wp2
        exact hK
      · rfl
      apply AnyC.take (i := 3) rfl (by kernel_rfl) rfl
      · intro w' hC K hK
        refine wpList_load_arr rfl _ _ rfl b1 (o1 + k * 65) rfl pc _ (R1.out w' hC) Try.underlying118 rfl (by rw [PZ.out]; kernel_rfl) ?_
        go_wp2
        exact hK
      · rfl
      apply AnyC.take (i := 4) rfl (by kernel_rfl) rfl
      · intro w' hC K hK
        go_wp2
        exact hK
      · rfl
      apply AnyC.take (i := 5) rfl (by kernel_rfl) rfl
      · intro w' hC K hK
        go_wp2
        exact hK
      · rfl
      apply AnyC.take (i := 6) rfl (by kernel_rfl) rfl
      · intro w' hC K hK
        go_wp2
        exact hK
      · rfl
      apply AnyC.take (i := 7) rfl (by kernel_rfl) rfl
      · intro w' hC K hK
        refine wpList_load_arr rfl _ _ rfl b2 (o2 + k * 65) rfl pc _ (R2.out w' hC) Try.underlying118 rfl (by rw [PZ.out]; kernel_rfl) ?_
        go_wp2
        exact hK
      · rfl
      apply AnyC.take (i := 8) rfl (by kernel_rfl) rfl
      · intro w' hC K hK
        refine wpList_same false rfl 118 118 _ _ rfl pc rfl rfl (by kernel_rfl) (HEQ.out w') ?_
        go_wp2
        exact hK
      · rfl
      refine AnyC.done B2.out (by kernel_rfl) ?_
      go_wp2
      go_roundw
      case rel => exact ⟨k + 1, HK.out, by go_num, B2.out⟩
      case measure => simp [intOf]; omega
    · obtain rfl : k = n := by omega
      go_wp2
      go_ret
      exact ⟨rfl, hO.out⟩
set_option maxRecDepth 100000 in
set_option maxHeartbeats 1000000 in
theorem SameBytes_any (A1 A2 : Option Addr) (c1 c2 : Nat) (l : List UInt8) (w : World) (h1 : Reads w w.heap.size 1 A1 l.length (bvs l)) (h2 : Reads w w.heap.size 1 A2 l.length (bvs l)) : Calls Try.prog 76 #[.slice A1 l.length c1, .slice A2 l.length c2] w (SamePost w) := by
  have s1 := run_str8 h1 c1
  have s2 := run_str8 h2 c2
  go_enter Try.func76, Try.ntmps76
  go_wp2
  go_ret
  exact ⟨by simp, Below.refl _ _⟩
set_option maxRecDepth 100000 in
set_option maxHeartbeats 1000000 in
theorem SameLinks_any (A1 A2 : Option Addr) (n1 n2 c1 c2 : Nat) (l : List UInt8) (w : World) (h1 : Reads w w.heap.size 96 A1 n1 (bvs l)) (h2 : Reads w w.heap.size 96 A2 n2 (bvs l)) (hm : l.length ≤ 140737488355328) : Calls Try.prog 77 #[.slice A1 n1 c1, .slice A2 n2 c2] w (SamePost w) := by
  have H1 := Lib.hid h1
  have H2 := Lib.hid h2
  have HM := Lib.hid hm
  have T0 : Hid True := trivial
  clear h1 h2 hm
  go_enter Try.func77, Try.ntmps77
  go_wp2_with (first
    | (go_at_call 71; have hx_ := T1; go_must (refine (rLinksBytes_any A2 n2 c2 l w1 ((H2.out.keep fun _ hp => B1.out.cell hp).more B1.out.size) HM.out).mono ?_; rintro e w2 ⟨v, rfl, ho, hb⟩; obtain ⟨Ay, cy, rfl, hcy, hry⟩ := own8_form ho; have R1 := Lib.hid ((RX.out.keep fun _ hp => hb.cell hp).more hb.size); have RY := Lib.hid hry; have B2 := Lib.hid (B1.out.trans (hb.mono B1.out.size)); clear ho hb hcy hry))
    | (go_at_call 71; have hx_ := T0; go_must (refine (rLinksBytes_any A1 n1 c1 l w H1.out HM.out).mono ?_; rintro e w1 ⟨v, rfl, ho, hb⟩; obtain ⟨Ax, cx, rfl, hcx, hrx⟩ := own8_form ho; have RX := Lib.hid hrx; have B1 := Lib.hid hb; have T1 := hx_; clear T0 ho hb hcx hrx hx_))
    | (go_at_call 76; go_must (refine (SameBytes_any Ax Ay cx cy l w2 R1.out RY.out).mono ?_; rintro e w3 ⟨rfl, hb⟩; have B3 := Lib.hid (B2.out.trans (hb.mono B2.out.size)); clear hb)))
  go_ret
  exact ⟨rfl, B3.out⟩
end Go.Proofs.Ytbpgbihcihnieaa

namespace Go.Proofs.Ytbpgbihcihnieaa
open Go.RowKit
theorem StepIn.below {w w' : World} {cs : Array Value} {r : RootV} {ns : List NodeV} {ad lk : List UInt8} {An Aa Al : Option Addr} {cn na ca nl cl : Nat} (h : StepIn w cs r ns ad lk An Aa Al cn na ca nl cl) (hb : Below w.heap.size w w') : StepIn w' cs r ns ad lk An Aa Al cn na ca nl cl :=
  ⟨h.hcs, h.hok, ⟨h.hns.1, (h.hns.2.keep fun _ hp => hb.cell hp).more hb.size⟩, h.hnl, (h.had.keep fun _ hp => hb.cell hp).more hb.size, h.hal, (h.hlk.keep fun _ hp => hb.cell hp).more hb.size, h.hll⟩
set_option maxRecDepth 100000 in
set_option maxHeartbeats 4000000 in
theorem SameStep_any (w : World) (cs1 cs2 : Array Value) (r : RootV) (ns : List NodeV) (ad lk : List UInt8) (An1 Aa1 Al1 : Option Addr) (cn1 na1 ca1 nl1 cl1 : Nat) (An2 Aa2 Al2 : Option Addr) (cn2 na2 ca2 nl2 cl2 : Nat) (h1 : StepIn w cs1 r ns ad lk An1 Aa1 Al1 cn1 na1 ca1 nl1 cl1) (h2 : StepIn w cs2 r ns ad lk An2 Aa2 Al2 cn2 na2 ca2 nl2 cl2) :
    Calls Try.prog 42 #[.agg cs1, .agg cs2] w (SamePost w) := by
  have B0 : Hid (Below w.heap.size w ((w.alloc (.cells cs1 66)).alloc (.cells cs2 66))) := ((Below.refl _ _).alloc (Nat.le_refl _) _).alloc (by simp) _
  have P1 : Hid (((w.alloc (.cells cs1 66)).alloc (.cells cs2 66)).heap[w.heap.size]? = some (.cells cs1 66 (0, 0))) := by
    show _ = _
    rw [Below.heap_alloc _ _ _ (by simp)]
    exact heap_alloc_new w _
  have P2 : Hid (((w.alloc (.cells cs1 66)).alloc (.cells cs2 66)).heap[w.heap.size + 1]? = some (.cells cs2 66 (0, 0))) := by
    have h_ := heap_alloc_new (w.alloc (.cells cs1 66)) (.cells cs2 66)
    show _ = _
    simpa using h_
  have H1 := Lib.hid (h1.below B0.out)
  have H2 := Lib.hid (h2.below B0.out)
  have HNL : Hid (ns.length ≤ 1954687338211) := h1.hnl
  obtain ⟨X, hX⟩ : ∃ X : Array Value, X = r.cs := ⟨_, rfl⟩
  have XZ : Hid (X.size = 163) := by show _ = _; rw [hX]; exact root_size h1.hok
  have HEQ : Hid (∀ w, (Op.equalIn 10000 47 (.agg X) (.agg X)).run Try.prog w = .ok true w) := fun w => by rw [hX]; exact eq_root h1.hok w
  have HXX := Lib.hid hX
  clear h1 h2 hX
  go_enter Try.func42, Try.ntmps42
  go_wp2
  generalize (w.alloc (.cells cs1 66)).alloc (.cells cs2 66) = V at *
  refine AnyC.startB (fun w' => Below V.heap.size V w') (by kernel_rfl) rfl ?_
  intro w2 B2 hs2
  clear hs2
  have B2 := Lib.hid B2
  apply AnyC.take (i := 0) rfl (by kernel_rfl) rfl
  · intro w' hC K hK
    go_wp2
    exact hK
  · rfl
  apply AnyC.take (i := 1) rfl (by kernel_rfl) rfl
  · intro w' hC K hK
    refine wpList_load_arr rfl _ _ rfl w.heap.size 0 rfl X _ (by rw [HXX.out]; exact (H1.out.at_ (heap_below P1.out hC)).2.2.2) Try.underlying47 rfl (by rw [XZ.out]; kernel_rfl) ?_
    go_wp2
    exact hK
  · rfl
  apply AnyC.take (i := 2) rfl (by kernel_rfl) rfl
  · intro w' hC K hK
    go_wp2
    exact hK
  · rfl
  apply AnyC.take (i := 3) rfl (by kernel_rfl) rfl
  · intro w' hC K hK
    refine wpList_load_arr rfl _ _ rfl (w.heap.size + 1) 0 rfl X _ (by rw [HXX.out]; exact (H2.out.at_ (heap_below P2.out hC)).2.2.2) Try.underlying47 rfl (by rw [XZ.out]; kernel_rfl) ?_
    go_wp2
    exact hK
  · rfl
  apply AnyC.take (i := 4) rfl (by kernel_rfl) rfl
  · intro w' hC K hK
    refine wpList_same true rfl 47 47 _ _ rfl X rfl rfl (by kernel_rfl) (HEQ.out w') ?_
    go_wp2
    exact hK
  · rfl
  apply AnyC.take (i := 5) rfl (by kernel_rfl) rfl
  · intro w' hC K hK
    go_wp2
    exact hK
  · rfl
  apply AnyC.take (i := 6) rfl (by kernel_rfl) rfl
  · intro w' hC K hK
    go_wp2
    exact hK
  · rfl
  apply AnyC.take (i := 7) rfl (by kernel_rfl) rfl
  · intro w' hC K hK
    have cc := (H1.out.at_ (heap_below P1.out hC)).1
    go_wp2
    exact hK
  · rfl
  apply AnyC.take (i := 8) rfl (by kernel_rfl) rfl
  · intro w' hC K hK
    go_wp2
    exact hK
  · rfl
  apply AnyC.take (i := 9) rfl (by kernel_rfl) rfl
  · intro w' hC K hK
    have cc := (H2.out.at_ (heap_below P2.out hC)).1
    go_wp2
    exact hK
  · rfl
  apply AnyC.solo (i := 10) rfl (by kernel_rfl) B2.out
  go_wp2_with (go_at_call 75; go_must (refine (SameNodes_any An1 An2 _ cn1 cn2 ns w2 ⟨H1.out.hns.1, (H1.out.hns.2.keep fun _ hp => B2.out.cell hp).more B2.out.size⟩ ⟨H2.out.hns.1, (H2.out.hns.2.keep fun _ hp => B2.out.cell hp).more B2.out.size⟩ rfl HNL.out).mono ?_; rintro e w3 ⟨rfl, hb⟩; have B3 := Lib.hid (B2.out.trans (hb.mono B2.out.size)); clear hb))
  refine ⟨rfl, ?_⟩
  apply AnyC.take (i := 11) rfl (by kernel_rfl) rfl
  · intro w' hC K hK
    go_wp2
    exact hK
  · rfl
  apply AnyC.take (i := 12) rfl (by kernel_rfl) rfl
  · intro w' hC K hK
    go_wp2
    exact hK
  · rfl
  apply AnyC.take (i := 13) rfl (by kernel_rfl) rfl
  · intro w' hC K hK
    go_wp2
    exact hK
  · rfl
  apply AnyC.take (i := 14) rfl (by kernel_rfl) rfl
  · intro w' hC K hK
    have cc := (H1.out.at_ (heap_below P1.out hC)).2.1
    go_wp2
    exact hK
  · rfl
  apply AnyC.take (i := 16) rfl (by kernel_rfl) rfl
  · intro w' hC K hK
    go_wp2
    exact hK
  · rfl
  apply AnyC.take (i := 17) rfl (by kernel_rfl) rfl
  · intro w' hC K hK
    have cc := (H2.out.at_ (heap_below P2.out hC)).2.1
    go_wp2
    exact hK
  · rfl
  apply AnyC.solo (i := 15) rfl (by kernel_rfl) B3.out
  go_wp2_with (go_at_call 70; go_must (refine (rLeavesBytes_any Aa1 na1 ca1 ad w3 ((H1.out.had.keep fun _ hp => B3.out.cell hp).more B3.out.size) H1.out.hal).mono ?_; rintro e w4 ⟨v, rfl, ho, hb⟩; obtain ⟨Ax, cx, rfl, hcx, hrx⟩ := own8_form ho; have RX := Lib.hid hrx; have B4 := Lib.hid (B3.out.trans (hb.mono B3.out.size)); clear ho hb hcx hrx))
  refine ⟨rfl, ?_⟩
  apply AnyC.solo (i := 18) rfl (by kernel_rfl) B4.out
  go_wp2_with (go_at_call 70; go_must (refine (rLeavesBytes_any Aa2 na2 ca2 ad w4 ((H2.out.had.keep fun _ hp => B4.out.cell hp).more B4.out.size) H1.out.hal).mono ?_; rintro e w5 ⟨v, rfl, ho, hb⟩; obtain ⟨Ay, cy, rfl, hcy, hry⟩ := own8_form ho; have RY := Lib.hid hry; have RX5 := Lib.hid ((RX.out.keep fun _ hp => hb.cell hp).more hb.size); have B5 := Lib.hid (B4.out.trans (hb.mono B4.out.size)); clear ho hb hcy hry))
  refine ⟨rfl, ?_⟩
  apply AnyC.solo (i := 19) rfl (by kernel_rfl) B5.out
  go_wp2_with (go_at_call 76; go_must (refine (SameBytes_any Ax Ay cx cy ad w5 RX5.out RY.out).mono ?_; rintro e w6 ⟨rfl, hb⟩; have B6 := Lib.hid (B5.out.trans (hb.mono B5.out.size)); clear hb))
  refine ⟨rfl, ?_⟩
  apply AnyC.take (i := 20) rfl (by kernel_rfl) rfl
  · intro w' hC K hK
    go_wp2
    exact hK
  · rfl
  apply AnyC.take (i := 21) rfl (by kernel_rfl) rfl
  · intro w' hC K hK
    go_wp2
    exact hK
  · rfl
  apply AnyC.take (i := 22) rfl (by kernel_rfl) rfl
  · intro w' hC K hK
    go_wp2
    exact hK
  · rfl
  apply AnyC.take (i := 23) rfl (by kernel_rfl) rfl
  · intro w' hC K hK
    have cc := (H1.out.at_ (heap_below P1.out hC)).2.2.1
    go_wp2
    exact hK
  · rfl
  apply AnyC.take (i := 24) rfl (by kernel_rfl) rfl
  · intro w' hC K hK
    go_wp2
    exact hK
  · rfl
  apply AnyC.take (i := 25) rfl (by kernel_rfl) rfl
  · intro w' hC K hK
    have cc := (H2.out.at_ (heap_below P2.out hC)).2.2.1
    go_wp2
    exact hK
  · rfl
  apply AnyC.solo (i := 26) rfl (by kernel_rfl) B6.out
  go_wp2_with (go_at_call 77; go_must (refine (SameLinks_any Al1 Al2 nl1 nl2 cl1 cl2 lk w6 ((H1.out.hlk.keep fun _ hp => B6.out.cell hp).more B6.out.size) ((H2.out.hlk.keep fun _ hp => B6.out.cell hp).more B6.out.size) H1.out.hll).mono ?_; rintro e w7 ⟨rfl, hb⟩; have B7 := Lib.hid (B6.out.trans (hb.mono B6.out.size)); clear hb))
  refine ⟨rfl, ?_⟩
  apply AnyC.take (i := 27) rfl (by kernel_rfl) rfl
  · intro w' hC K hK
    go_wp2
    exact hK
  · rfl
  apply AnyC.take (i := 28) rfl (by kernel_rfl) rfl
  · intro w' hC K hK
    go_wp2
    exact hK
  · rfl
  refine AnyC.done B7.out (by kernel_rfl) ?_
  go_wp2
  first
    | go_ret
    | (refine bodyPost_ret (v := .bool true) (by simp [results, Try.results42]) rfl ?_)
  exact ⟨rfl, B0.out.trans (B7.out.mono B0.out.size)⟩
end Go.Proofs.Ytbpgbihcihnieaa
