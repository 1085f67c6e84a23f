/- The texts ArgLook LLook of this work, merged by wip/merge.py. No conditions. -/
import Derived.Test.YtbpgbihcihnieaaQArgs
import Derived.Test.YtbpgbihcihnieaaQM1
import Derived.Test.YtbpgbihcihnieaaQM6
import Derived.Test.YtbpgbihcihnieaaQM2
namespace Go.Proofs.Ytbpgbihcihnieaa
open Go.ChangeShapes Go.WideShapes Go.ChangeAt Go.RowKit Go.Deep
section
variable {H : Type} {enc : TypeId × Value → H} {w : World} {base : Nat} {held : Bool}
theorem cells_look : Try.prog.cellsOf 57 = 328 := by kernel_rfl
theorem cells_open : Try.prog.cellsOf 55 = 81 := by kernel_rfl
theorem cells80 : Try.prog.cellsOf 52 = 80 := by kernel_rfl
theorem cellsS : Try.prog.cellsOf 9 = 1 := by kernel_rfl
theorem cellsH : Try.prog.cellsOf 30 = 1 := by kernel_rfl
set_option maxRecDepth 100000 in
theorem open_opening {fuel : Nat} {cs : List Value} {x : DataW H × List MemPlace} (h : DataW.trod enc Try.prog w base (fun _ => true) held fuel 55 cs = some x) :
    ∃ p A c ns, p.length = 80 ∧ (∀ v ∈ ns, NodeV.ok v) ∧ cs = bvs p ++ [.slice A ns.length c] ∧ Reads w w.heap.size 65 A ns.length (nodesV ns) ∧ ∀ R, (x.1.weights Try.prog 55).all (· ≤ R) = true → ns.length * 72 ≤ R := by
  obtain ⟨xs, m, _, hxd, hl, hx, hf⟩ := DataW.trod_struct Try.underlying55 h
  rw [cells_open] at hl
  match xs, hx with
  | [y0, y1], _ =>
    have g0 : DataW.trod enc Try.prog w base (fun _ => true) held m 52 ((cs.drop 0).take (Try.prog.cellsOf 52)) = some y0 := hf 0 _ rfl
    have g1 : DataW.trod enc Try.prog w base (fun _ => true) held m 53 ((cs.drop 80).take (Try.prog.cellsOf 53)) = some y1 := hf 1 _ rfl
    rw [cells80] at g0
    rw [cellsN] at g1
    obtain ⟨p, n0, f0⟩ := open_u8s Try.underlying52 cells80 g0
    obtain ⟨An, nn, cn, V1, f1, v1, R1, W1⟩ := open_rows Try.underlying53 cells_node (by decide) g1
    obtain ⟨ns, k1, k2, k3⟩ := flat_nodes nn (fun i hi => by obtain ⟨_, f, y, h1⟩ := v1 i hi; exact open_node h1)
    subst k1
    rw [k3] at R1
    refine ⟨p, An, cn, ns, n0, k2, ?_, R1, fun R hR => ?_⟩
    · have c0 := cut_at cs 0 80
      have c1 := cut_at cs 80 1
      rw [List.drop_eq_nil_of_le (show cs.length ≤ 80 + 1 by omega), List.append_nil] at c1
      rw [List.drop_zero] at c0 f0
      rw [c0, show 0 + 80 = 80 from rfl, c1, f0, f1]
    · rw [hxd] at hR
      have h1 := List.all_eq_true.1 hR
      have b1 := W1 R (List.all_eq_true.2 fun u hu => h1 u (by simp only [DataW.weights, Try.underlying55]; simp [DataW.weightsEach]; exact .inr hu))
      rw [show Try.prog.bytesOf 118 = 72 from by kernel_rfl] at b1
      exact b1
def ArgLook (w : World) (v : Value) (q : LookV) : Prop := ∃ cs x, v = .agg cs ∧ LookIn w cs q x
variable {r : Reach} {b0 : Nat} {v : Value} {d : DataW H} {p : List MemPlace}
set_option maxRecDepth 100000 in
theorem arg_lookup (hv : Value.okWide Try.prog w r b0 57 v) (h : DataW.Trod enc Try.prog w base (fun _ => true) held 57 v d p) (hs : (d.weights Try.prog 57).all (· ≤ reachBytes) = true) : ∃ q, ArgLook w v q := by
  obtain ⟨fuel, hf⟩ := h
  simp only [Value.okWide, Try.underlying57] at hv
  obtain ⟨cs, rfl, _, _, _, _, _⟩ := hv
  obtain ⟨xs, m, _, hxd, hl, hx, hfl⟩ := DataW.trod_struct Try.underlying57 hf
  rw [cells_look] at hl
  match xs, hx with
  | [y0, y1, y2, y3, y4, y5], _ =>
    have g0 : DataW.trod enc Try.prog w base (fun _ => true) held m 47 ((cs.toList.drop 0).take (Try.prog.cellsOf 47)) = some y0 := hfl 0 _ rfl
    have g1 : DataW.trod enc Try.prog w base (fun _ => true) held m 9 ((cs.toList.drop 163).take (Try.prog.cellsOf 9)) = some y1 := hfl 1 _ rfl
    have g2 : DataW.trod enc Try.prog w base (fun _ => true) held m 34 ((cs.toList.drop 164).take (Try.prog.cellsOf 34)) = some y2 := hfl 2 _ rfl
    have g3 : DataW.trod enc Try.prog w base (fun _ => true) held m 30 ((cs.toList.drop 165).take (Try.prog.cellsOf 30)) = some y3 := hfl 3 _ rfl
    have g4 : DataW.trod enc Try.prog w base (fun _ => true) held m 55 ((cs.toList.drop 166).take (Try.prog.cellsOf 55)) = some y4 := hfl 4 _ rfl
    have g5 : DataW.trod enc Try.prog w base (fun _ => true) held m 55 ((cs.toList.drop 247).take (Try.prog.cellsOf 55)) = some y5 := hfl 5 _ rfl
    rw [cells_root] at g0
    rw [cellsS] at g1
    rw [cellsU] at g2
    rw [cellsH] at g3
    rw [cells_open] at g4 g5
    obtain ⟨r0, ok0, f0⟩ := open_root g0
    obtain ⟨s, f1, e1, _⟩ := DataW.trod_string Try.underlying9 g1
    obtain ⟨n, hn, f2⟩ := nat_u64 Try.underlying34 g2
    obtain ⟨Ad, nd, cd, V3, f3, v3, R3, W3⟩ := open_rows Try.underlying30 cells32 (by decide) g3
    obtain ⟨dv, j1, j2⟩ := flat_bvs nd (fun i hi => by obtain ⟨_, f, y, h1⟩ := v3 i hi; exact open_u8s Try.underlying44 cells32 h1)
    obtain ⟨fp, Af, cf, fn, q1, q2, f4, R4, W4⟩ := open_opening g4
    obtain ⟨sp, As, cs', sn, q3, q4, f5, R5, W5⟩ := open_opening g5
    have hd : d = .agg [y0.1, y1.1, y2.1, y3.1, y4.1, y5.1] := by injection hxd
    rw [hd] at hs
    have hR := List.all_eq_true.1 hs
    have b1 := of_decide_eq_true (hR s.data.toList.length (by simp only [DataW.weights, Try.underlying57]; simp [DataW.weightsEach, e1, DataW.weights]))
    have b3 := W3 reachBytes (List.all_eq_true.2 fun u hu => hR u (by simp only [DataW.weights, Try.underlying57]; simp [DataW.weightsEach]; exact .inr (.inr (.inr (.inl hu)))))
    have b4 := W4 reachBytes (List.all_eq_true.2 fun u hu => hR u (by simp only [DataW.weights, Try.underlying57]; simp [DataW.weightsEach]; exact .inr (.inr (.inr (.inr (.inl hu))))))
    have b5 := W5 reachBytes (List.all_eq_true.2 fun u hu => hR u (by simp only [DataW.weights, Try.underlying57]; simp [DataW.weightsEach]; exact .inr (.inr (.inr (.inr (.inr hu))))))
    rw [show Try.prog.bytesOf 44 = 32 from by kernel_rfl, reach_eq] at b3
    rw [reach_eq] at b1 b4 b5
    rw [j2] at R3
    refine ⟨⟨r0, s.data.toList, n, dv, fp, fn, sp, sn⟩, cs, ⟨Ad, Af, As, nd, cd, cf, cs'⟩, rfl, ⟨?_, ⟨ok0, hn, q1, q3, q2, q4⟩, R3, by show dv.length ≤ _; omega, R4, by show fn.length ≤ _; omega, R5, by show sn.length ≤ _; omega, by show s.data.toList.length ≤ _; omega⟩⟩
    have c0 := cut_at cs.toList 0 163
    have c1 := cut_at cs.toList 163 1
    have c2 := cut_at cs.toList 164 1
    have c3 := cut_at cs.toList 165 1
    have c4 := cut_at cs.toList 166 81
    have c5 := cut_at cs.toList 247 81
    have hl' : cs.toList.length = 328 := hl
    rw [List.drop_eq_nil_of_le (show cs.toList.length ≤ 247 + 81 by omega), List.append_nil] at c5
    rw [List.drop_zero] at c0
    have hs' : (ByteArray.mk s.data.toList.toArray) = s := by cases s; simp
    apply Array.toList_inj.1
    have F0 : cs.toList.take 163 = r0.vs := by simpa using f0
    rw [c0, show 0 + 163 = 163 from rfl, c1, show 163 + 1 = 164 from rfl, c2, show 164 + 1 = 165 from rfl, c3, show 165 + 1 = 166 from rfl, c4, show 166 + 81 = 247 from rfl, c5, F0, f1, f2, f3, f4, f5]
    simp [lookVs]
end
end Go.Proofs.Ytbpgbihcihnieaa

namespace Go.Proofs.Ytbpgbihcihnieaa
open Go.RowKit
theorem wpList_load_look {ops : Array Oper} {rest : List Oper} {op : Oper} {a : Act} {w : World} {Q : Exit → Act → World → Prop} (hw : Region.wanted op (yielded ops a.tmps) = true) (x : Operand) (ho : op.op = .load 57 x)
    (b : Nat) (xs : Array Value) (hr : w.rangeAt b 0 xs.toList) (hs : xs.size = 328) (hx : a.eval x = .pointer (some ⟨b, 0, none⟩)) {d : Nat} (hd : op.dst = some d)
    (h : wpList Try.prog ops Q rest { a with tmps := a.tmps.setIfInBounds d (.agg xs) } w) : wpList Try.prog ops Q (op :: rest) a w := by
  unfold wpList
  rw [if_pos hw]
  refine .inl (wp_load_mid 57 x ho b 0 hx xs.toList _ hr Try.underlying57 rfl (by rw [Array.length_toList, hs]; kernel_rfl) ?_)
  rw [Array.toArray_toList, hd]
  exact h
set_option maxRecDepth 100000 in
set_option maxHeartbeats 4000000 in
theorem WireLookups_00 (w : World) (cs : Array Value) (q : LookV) (x : LookA) (hs : LookIn w cs q x) (v1 : Value) (l : List UInt8) (a1 : ArgB w v1 l) (hE : lookE q = 0) (hF : lookF l = 0) : Calls Try.prog 10 #[.agg cs, v1] w fun e w' => e = .returned (.bool true) ∧ Below w.heap.size w w' := by
  obtain ⟨A, c, rfl, hc, hrd, hm⟩ := a1
  rw [reach_eq] at hm
  have hm' : l.length ≤ 140737488355328 := by omega
  obtain ⟨Zz, hZ⟩ : ∃ Z : Array Value, Z = lookZ := ⟨_, rfl⟩
  have hz := hz57
  rw [← hZ] at hz
  have HZz : Hid (Zz.size = 328) := by show _ = _; rw [hZ]; exact lookC_size rootZ_ok z80_len z80_len
  have HE := Lib.hid hE
  have HF := Lib.hid hF
  have hfo := hs.forth hE
  obtain ⟨S, hS⟩ : ∃ S : List UInt8, S = lookB q := ⟨_, rfl⟩
  rw [← hS] at hfo
  have HSB : Hid (lookB q = S) := hS.symm
  have HFO := Lib.hid hfo
  have HSL : Hid (S.length ≤ 140737488355328) := by
    show _ ≤ _
    have := lookB_le (q := q)
    rw [← hS] at this
    omega
  clear hfo hS
  have HBK := Lib.hid (look_back (lookR_of hF))
  have XS : Hid (cs.size = 328) := hs.size
  have X0 : Hid ((w.alloc (.cells cs 57)).heap[w.heap.size]? = some (.cells cs 57 (0, 0))) := heap_alloc_new w _
  have D0 : Hid (Below w.heap.size w (w.alloc (.cells cs 57))) := (Below.refl _ _).alloc (Nat.le_refl _) _
  have SX0 := Lib.hid (hs.below D0.out)
  have RB0 := Lib.hid ((hrd.keep fun _ hp => D0.out.cell hp).more D0.out.size)
  have Hc := Lib.hid hc
  have Hm := Lib.hid hm'
  clear hm hm' hs hrd hc hZ hE hF
  have TD0 : Hid True := trivial
  have TE0 : Hid True := trivial
  have TS0 : Hid True := trivial
  go_enter Try.func10, Try.ntmps10
  go_wp2_with (first
    | (go_at_call 12; go_must (refine (awake_any _).mono ?_; rintro e w1 ⟨rfl, hb⟩; have X1 := Lib.hid (heap_below X0.out hb); have D1 := Lib.hid (D0.out.trans (hb.mono D0.out.size)); have SX1 := Lib.hid (SX0.out.below hb); have RB1 := Lib.hid ((RB0.out.keep fun _ hp => hb.cell hp).more hb.size); clear hb))
    | (go_at_call 33; have hx_ := TE1; go_must (refine (EncodeLookup_any w6 Yc (lookR l) xY (SY6.out)).mono ?_; rintro e w7 ⟨v, rfl, ho, hb⟩; rw [HBK.out.2.1]; rw [HBK.out.1] at ho; obtain ⟨A7, c7, rfl, hc_, hr_⟩ := own8_form ho; have X7 := Lib.hid (heap_below X6.out hb); have D7 := Lib.hid (D6.out.trans (hb.mono D6.out.size)); have SX7 := Lib.hid (SX6.out.below hb); have RB7 := Lib.hid ((RB6.out.keep fun _ hp => hb.cell hp).more hb.size); have RS7 := Lib.hid ((RS6.out.keep fun _ hp => hb.cell hp).more hb.size); have hsu := run_str8 hr_ c7; have hsb := run_str8 RB7.out c; clear ho hb hc_ hr_ TE1 hx_))
    | (go_at_call 33; have hx_ := TE0; go_must (refine (EncodeLookup_any w1 cs q x (SX1.out)).mono ?_; rintro e w2 ⟨v, rfl, ho, hb⟩; rw [HE.out]; rw [HSB.out] at ho; obtain ⟨A2, c2, rfl, hc_, hr_⟩ := own8_form ho; have RS2 := Lib.hid (hr_); have C2 := Lib.hid (hc_); have X2 := Lib.hid (heap_below X1.out hb); have D2 := Lib.hid (D1.out.trans (hb.mono D1.out.size)); have SX2 := Lib.hid (SX1.out.below hb); have RB2 := Lib.hid ((RB1.out.keep fun _ hp => hb.cell hp).more hb.size); have TE1 := hx_; clear ho hb hc_ hr_ TE0 hx_))
    | (go_at_call 34; go_must (refine (rEncodeLookup_any w2 cs q x (SX2.out)).mono ?_; rintro e w3 ⟨v, rfl, ho, hb⟩; rw [HE.out]; rw [HSB.out] at ho; obtain ⟨A3, c3, rfl, hc_, hr_⟩ := own8_form ho; have RT3 := Lib.hid (hr_); have C3 := Lib.hid (hc_); have X3 := Lib.hid (heap_below X2.out hb); have D3 := Lib.hid (D2.out.trans (hb.mono D2.out.size)); have SX3 := Lib.hid (SX2.out.below hb); have RB3 := Lib.hid ((RB2.out.keep fun _ hp => hb.cell hp).more hb.size); have RS3 := Lib.hid ((RS2.out.keep fun _ hp => hb.cell hp).more hb.size); clear ho hb hc_ hr_))
    | (go_at_call 35; have hx_ := TD1; go_must (refine (DecodeLookup_any A2 c2 S _ (RS7.out) C2.out HSL.out).mono ?_; rintro e w8 ⟨Wc, xW, rfl, hy, oy, hb⟩; rw [HFO.out.2]; have WS := Lib.hid (hy.size); have WO := Lib.hid (oy); have rn := row_new w8 Zz Wc 57; have SW8 := Lib.hid (hy.below rn.1); have W8 := Lib.hid (rn.2.1); have AN8 := Lib.hid (heap_alloc_new w8 (.cells Zz 57)); have hb2 := hb.trans (rn.1.mono hb.size); have X8 := Lib.hid (heap_below X7.out hb2); have D8 := Lib.hid (D7.out.trans (hb2.mono D7.out.size)); have SX8 := Lib.hid (SX7.out.below hb2); rw [HFO.out.1] at SW8; clear TD1 hx_; clear hy oy rn hb hb2))
    | (go_at_call 35; have hx_ := TD0; go_must (refine (DecodeLookup_any A c l _ (RB3.out) Hc.out Hm.out).mono ?_; rintro e w4 ⟨Yc, xY, rfl, hy, oy, hb⟩; rw [HF.out]; have YS := Lib.hid (hy.size); have YO := Lib.hid (oy); have rn := row_new w4 Zz Yc 57; have SY4 := Lib.hid (hy.below rn.1); have Y4 := Lib.hid (rn.2.1); have AN4 := Lib.hid (heap_alloc_new w4 (.cells Zz 57)); have hb2 := hb.trans (rn.1.mono hb.size); have X4 := Lib.hid (heap_below X3.out hb2); have D4 := Lib.hid (D3.out.trans (hb2.mono D3.out.size)); have SX4 := Lib.hid (SX3.out.below hb2); have RB4 := Lib.hid ((RB3.out.keep fun _ hp => hb2.cell hp).more hb2.size); have RS4 := Lib.hid ((RS3.out.keep fun _ hp => hb2.cell hp).more hb2.size); have RT4 := Lib.hid ((RT3.out.keep fun _ hp => hb2.cell hp).more hb2.size); have TD1 := hx_; clear TD0 hx_; clear hy oy rn hb hb2))
    | (go_at_call 36; go_must (refine (rDecodeLookup_any A c l _ (RB4.out) Hc.out Hm.out).mono ?_; rintro e w5 ⟨Zc, xZ, rfl, hy, oy, hb⟩; rw [HF.out]; have ZS := Lib.hid (hy.size); have ZO := Lib.hid (oy); have rn := row_new w5 Zz Zc 57; have SZ5 := Lib.hid (hy.below rn.1); have Z5 := Lib.hid (rn.2.1); have AN5 := Lib.hid (heap_alloc_new w5 (.cells Zz 57)); have hb2 := hb.trans (rn.1.mono hb.size); have X5 := Lib.hid (heap_below X4.out hb2); have D5 := Lib.hid (D4.out.trans (hb2.mono D4.out.size)); have SX5 := Lib.hid (SX4.out.below hb2); have RB5 := Lib.hid ((RB4.out.keep fun _ hp => hb2.cell hp).more hb2.size); have RS5 := Lib.hid ((RS4.out.keep fun _ hp => hb2.cell hp).more hb2.size); have RT5 := Lib.hid ((RT4.out.keep fun _ hp => hb2.cell hp).more hb2.size); have Y5 := Lib.hid (heap_below Y4.out hb2); have SY5 := Lib.hid (SY4.out.below hb2); have hs2 := run_str8 RS5.out c2; have hs3 := run_str8 RT5.out c3; clear hy oy rn hb hb2))
    | (go_at_call 37; have hx_ := TS1; go_must (refine (SameLookup_any _ Wc cs q xW x SW8.out SX8.out).mono ?_; rintro e w9 ⟨rfl, hb⟩; have D9 := Lib.hid (D8.out.trans (hb.mono D8.out.size)); clear hb TS1 hx_))
    | (go_at_call 37; have hx_ := TS0; go_must (refine (SameLookup_any _ Yc Zc (lookR l) xY xZ SY5.out SZ5.out).mono ?_; rintro e w6 ⟨rfl, hb⟩; have X6 := Lib.hid (heap_below X5.out hb); have D6 := Lib.hid (D5.out.trans (hb.mono D5.out.size)); have SX6 := Lib.hid (SX5.out.below hb); have RB6 := Lib.hid ((RB5.out.keep fun _ hp => hb.cell hp).more hb.size); have RS6 := Lib.hid ((RS5.out.keep fun _ hp => hb.cell hp).more hb.size); have Y6 := Lib.hid (heap_below Y5.out hb); have SY6 := Lib.hid (SY5.out.below hb); have TS1 := hx_; clear hb TS0 hx_ hs2 hs3))
    | (refine wpList_store_row rfl _ _ _ rfl w4.heap.size Yc rfl rfl 57 Zz (by with_reducible exact AN4.out) (by rw [YS.out]; kernel_rfl) (by rw [YS.out, HZz.out]) (by exact YO.out) ?_)
    | (refine wpList_store_row rfl _ _ _ rfl w5.heap.size Zc rfl rfl 57 Zz (by with_reducible exact AN5.out) (by rw [ZS.out]; kernel_rfl) (by rw [ZS.out, HZz.out]) (by exact ZO.out) ?_)
    | (refine wpList_store_row rfl _ _ _ rfl w8.heap.size Wc rfl rfl 57 Zz (by with_reducible exact AN8.out) (by rw [WS.out]; kernel_rfl) (by rw [WS.out, HZz.out]) (by exact WO.out) ?_)
    | (refine wpList_load_look (by kernel_rfl) _ rfl _ cs (by with_reducible exact range_row X1.out) XS.out rfl rfl ?_)
    | (refine wpList_load_look (by kernel_rfl) _ rfl _ cs (by with_reducible exact range_row X2.out) XS.out rfl rfl ?_)
    | (refine wpList_load_look (by kernel_rfl) _ rfl _ Yc (by with_reducible exact range_row Y5.out) YS.out rfl rfl ?_)
    | (refine wpList_load_look (by kernel_rfl) _ rfl _ Zc (by with_reducible exact range_row Z5.out) ZS.out rfl rfl ?_)
    | (refine wpList_load_look (by kernel_rfl) _ rfl _ Yc (by with_reducible exact range_row Y6.out) YS.out rfl rfl ?_)
    | (refine wpList_load_look (by kernel_rfl) _ rfl _ Wc (by with_reducible exact range_row W8.out) WS.out rfl rfl ?_)
    | (refine wpList_load_look (by kernel_rfl) _ rfl _ cs (by with_reducible exact range_row X8.out) XS.out rfl rfl ?_))
  all_goals (first | go_ret | (refine bodyPost_ret (v := .bool true) (by simp [results, Try.results10]) rfl ?_))
  all_goals exact ⟨rfl, D9.out⟩
set_option maxRecDepth 100000 in
set_option maxHeartbeats 4000000 in
theorem WireLookups_02 (w : World) (cs : Array Value) (q : LookV) (x : LookA) (hs : LookIn w cs q x) (v1 : Value) (l : List UInt8) (a1 : ArgB w v1 l) (hE : lookE q = 0) (hF : lookF l = 2) : Calls Try.prog 10 #[.agg cs, v1] w fun e w' => e = .returned (.bool true) ∧ Below w.heap.size w w' := by
  obtain ⟨A, c, rfl, hc, hrd, hm⟩ := a1
  rw [reach_eq] at hm
  have hm' : l.length ≤ 140737488355328 := by omega
  obtain ⟨Zz, hZ⟩ : ∃ Z : Array Value, Z = lookZ := ⟨_, rfl⟩
  have hz := hz57
  rw [← hZ] at hz
  have HZz : Hid (Zz.size = 328) := by show _ = _; rw [hZ]; exact lookC_size rootZ_ok z80_len z80_len
  have HE := Lib.hid hE
  have HF := Lib.hid hF
  have hfo := hs.forth hE
  obtain ⟨S, hS⟩ : ∃ S : List UInt8, S = lookB q := ⟨_, rfl⟩
  rw [← hS] at hfo
  have HSB : Hid (lookB q = S) := hS.symm
  have HFO := Lib.hid hfo
  have HSL : Hid (S.length ≤ 140737488355328) := by
    show _ ≤ _
    have := lookB_le (q := q)
    rw [← hS] at this
    omega
  clear hfo hS
  have XS : Hid (cs.size = 328) := hs.size
  have X0 : Hid ((w.alloc (.cells cs 57)).heap[w.heap.size]? = some (.cells cs 57 (0, 0))) := heap_alloc_new w _
  have D0 : Hid (Below w.heap.size w (w.alloc (.cells cs 57))) := (Below.refl _ _).alloc (Nat.le_refl _) _
  have SX0 := Lib.hid (hs.below D0.out)
  have RB0 := Lib.hid ((hrd.keep fun _ hp => D0.out.cell hp).more D0.out.size)
  have Hc := Lib.hid hc
  have Hm := Lib.hid hm'
  clear hm hm' hs hrd hc hZ hE hF
  have TD0 : Hid True := trivial
  have TE0 : Hid True := trivial
  have TS0 : Hid True := trivial
  go_enter Try.func10, Try.ntmps10
  go_wp2_with (first
    | (go_at_call 12; go_must (refine (awake_any _).mono ?_; rintro e w1 ⟨rfl, hb⟩; have X1 := Lib.hid (heap_below X0.out hb); have D1 := Lib.hid (D0.out.trans (hb.mono D0.out.size)); have SX1 := Lib.hid (SX0.out.below hb); have RB1 := Lib.hid ((RB0.out.keep fun _ hp => hb.cell hp).more hb.size); clear hb))
    | (go_at_call 33; have hx_ := TE0; go_must (refine (EncodeLookup_any w1 cs q x (SX1.out)).mono ?_; rintro e w2 ⟨v, rfl, ho, hb⟩; rw [HE.out]; rw [HSB.out] at ho; obtain ⟨A2, c2, rfl, hc_, hr_⟩ := own8_form ho; have RS2 := Lib.hid (hr_); have C2 := Lib.hid (hc_); have X2 := Lib.hid (heap_below X1.out hb); have D2 := Lib.hid (D1.out.trans (hb.mono D1.out.size)); have SX2 := Lib.hid (SX1.out.below hb); have RB2 := Lib.hid ((RB1.out.keep fun _ hp => hb.cell hp).more hb.size); have TE1 := hx_; clear ho hb hc_ hr_ TE0 hx_))
    | (go_at_call 34; go_must (refine (rEncodeLookup_any w2 cs q x (SX2.out)).mono ?_; rintro e w3 ⟨v, rfl, ho, hb⟩; rw [HE.out]; rw [HSB.out] at ho; obtain ⟨A3, c3, rfl, hc_, hr_⟩ := own8_form ho; have RT3 := Lib.hid (hr_); have C3 := Lib.hid (hc_); have X3 := Lib.hid (heap_below X2.out hb); have D3 := Lib.hid (D2.out.trans (hb.mono D2.out.size)); have SX3 := Lib.hid (SX2.out.below hb); have RB3 := Lib.hid ((RB2.out.keep fun _ hp => hb.cell hp).more hb.size); have RS3 := Lib.hid ((RS2.out.keep fun _ hp => hb.cell hp).more hb.size); clear ho hb hc_ hr_))
    | (go_at_call 35; have hx_ := TD1; go_must (refine (DecodeLookup_any A2 c2 S _ (RS6.out) C2.out HSL.out).mono ?_; rintro e w8 ⟨Wc, xW, rfl, hy, oy, hb⟩; rw [HFO.out.2]; have WS := Lib.hid (hy.size); have WO := Lib.hid (oy); have rn := row_new w8 Zz Wc 57; have SW8 := Lib.hid (hy.below rn.1); have W8 := Lib.hid (rn.2.1); have AN8 := Lib.hid (heap_alloc_new w8 (.cells Zz 57)); have hb2 := hb.trans (rn.1.mono hb.size); have X8 := Lib.hid (heap_below X6.out hb2); have D8 := Lib.hid (D6.out.trans (hb2.mono D6.out.size)); have SX8 := Lib.hid (SX6.out.below hb2); rw [HFO.out.1] at SW8; clear TD1 hx_; clear hy oy rn hb hb2))
    | (go_at_call 35; have hx_ := TD0; go_must (refine (DecodeLookup_any A c l _ (RB3.out) Hc.out Hm.out).mono ?_; rintro e w4 ⟨Yc, xY, rfl, hy, oy, hb⟩; rw [HF.out]; have YS := Lib.hid (hy.size); have YO := Lib.hid (oy); have rn := row_new w4 Zz Yc 57; have SY4 := Lib.hid (hy.below rn.1); have Y4 := Lib.hid (rn.2.1); have AN4 := Lib.hid (heap_alloc_new w4 (.cells Zz 57)); have hb2 := hb.trans (rn.1.mono hb.size); have X4 := Lib.hid (heap_below X3.out hb2); have D4 := Lib.hid (D3.out.trans (hb2.mono D3.out.size)); have SX4 := Lib.hid (SX3.out.below hb2); have RB4 := Lib.hid ((RB3.out.keep fun _ hp => hb2.cell hp).more hb2.size); have RS4 := Lib.hid ((RS3.out.keep fun _ hp => hb2.cell hp).more hb2.size); have RT4 := Lib.hid ((RT3.out.keep fun _ hp => hb2.cell hp).more hb2.size); have TD1 := hx_; clear TD0 hx_; clear hy oy rn hb hb2))
    | (go_at_call 36; go_must (refine (rDecodeLookup_any A c l _ (RB4.out) Hc.out Hm.out).mono ?_; rintro e w5 ⟨Zc, xZ, rfl, hy, oy, hb⟩; rw [HF.out]; have ZS := Lib.hid (hy.size); have ZO := Lib.hid (oy); have rn := row_new w5 Zz Zc 57; have SZ5 := Lib.hid (hy.below rn.1); have Z5 := Lib.hid (rn.2.1); have AN5 := Lib.hid (heap_alloc_new w5 (.cells Zz 57)); have hb2 := hb.trans (rn.1.mono hb.size); have X5 := Lib.hid (heap_below X4.out hb2); have D5 := Lib.hid (D4.out.trans (hb2.mono D4.out.size)); have SX5 := Lib.hid (SX4.out.below hb2); have RB5 := Lib.hid ((RB4.out.keep fun _ hp => hb2.cell hp).more hb2.size); have RS5 := Lib.hid ((RS4.out.keep fun _ hp => hb2.cell hp).more hb2.size); have RT5 := Lib.hid ((RT4.out.keep fun _ hp => hb2.cell hp).more hb2.size); have Y5 := Lib.hid (heap_below Y4.out hb2); have SY5 := Lib.hid (SY4.out.below hb2); have hs2 := run_str8 RS5.out c2; have hs3 := run_str8 RT5.out c3; clear hy oy rn hb hb2))
    | (go_at_call 37; have hx_ := TS1; go_must (refine (SameLookup_any _ Wc cs q xW x SW8.out SX8.out).mono ?_; rintro e w9 ⟨rfl, hb⟩; have D9 := Lib.hid (D8.out.trans (hb.mono D8.out.size)); clear hb TS1 hx_))
    | (go_at_call 37; have hx_ := TS0; go_must (refine (SameLookup_any _ Yc Zc (lookR l) xY xZ SY5.out SZ5.out).mono ?_; rintro e w6 ⟨rfl, hb⟩; have X6 := Lib.hid (heap_below X5.out hb); have D6 := Lib.hid (D5.out.trans (hb.mono D5.out.size)); have SX6 := Lib.hid (SX5.out.below hb); have RB6 := Lib.hid ((RB5.out.keep fun _ hp => hb.cell hp).more hb.size); have RS6 := Lib.hid ((RS5.out.keep fun _ hp => hb.cell hp).more hb.size); have Y6 := Lib.hid (heap_below Y5.out hb); have SY6 := Lib.hid (SY5.out.below hb); have TS1 := hx_; clear hb TS0 hx_ hs2 hs3))
    | (refine wpList_store_row rfl _ _ _ rfl w4.heap.size Yc rfl rfl 57 Zz (by with_reducible exact AN4.out) (by rw [YS.out]; kernel_rfl) (by rw [YS.out, HZz.out]) (by exact YO.out) ?_)
    | (refine wpList_store_row rfl _ _ _ rfl w5.heap.size Zc rfl rfl 57 Zz (by with_reducible exact AN5.out) (by rw [ZS.out]; kernel_rfl) (by rw [ZS.out, HZz.out]) (by exact ZO.out) ?_)
    | (refine wpList_store_row rfl _ _ _ rfl w8.heap.size Wc rfl rfl 57 Zz (by with_reducible exact AN8.out) (by rw [WS.out]; kernel_rfl) (by rw [WS.out, HZz.out]) (by exact WO.out) ?_)
    | (refine wpList_load_look (by kernel_rfl) _ rfl _ cs (by with_reducible exact range_row X1.out) XS.out rfl rfl ?_)
    | (refine wpList_load_look (by kernel_rfl) _ rfl _ cs (by with_reducible exact range_row X2.out) XS.out rfl rfl ?_)
    | (refine wpList_load_look (by kernel_rfl) _ rfl _ Yc (by with_reducible exact range_row Y5.out) YS.out rfl rfl ?_)
    | (refine wpList_load_look (by kernel_rfl) _ rfl _ Zc (by with_reducible exact range_row Z5.out) ZS.out rfl rfl ?_)
    | (refine wpList_load_look (by kernel_rfl) _ rfl _ Wc (by with_reducible exact range_row W8.out) WS.out rfl rfl ?_)
    | (refine wpList_load_look (by kernel_rfl) _ rfl _ cs (by with_reducible exact range_row X8.out) XS.out rfl rfl ?_))
  all_goals (first | go_ret | (refine bodyPost_ret (v := .bool true) (by simp [results, Try.results10]) rfl ?_))
  all_goals exact ⟨rfl, D9.out⟩
set_option maxRecDepth 100000 in
set_option maxHeartbeats 4000000 in
theorem WireLookups_10 (w : World) (cs : Array Value) (q : LookV) (x : LookA) (hs : LookIn w cs q x) (v1 : Value) (l : List UInt8) (a1 : ArgB w v1 l) (hE : lookE q = 1) (hF : lookF l = 0) : Calls Try.prog 10 #[.agg cs, v1] w fun e w' => e = .returned (.bool true) ∧ Below w.heap.size w w' := by
  obtain ⟨A, c, rfl, hc, hrd, hm⟩ := a1
  rw [reach_eq] at hm
  have hm' : l.length ≤ 140737488355328 := by omega
  obtain ⟨Zz, hZ⟩ : ∃ Z : Array Value, Z = lookZ := ⟨_, rfl⟩
  have hz := hz57
  rw [← hZ] at hz
  have HZz : Hid (Zz.size = 328) := by show _ = _; rw [hZ]; exact lookC_size rootZ_ok z80_len z80_len
  have HE := Lib.hid hE
  have HF := Lib.hid hF
  have hno := look_none (q := q) (by rw [hE]; decide)
  obtain ⟨S, hS⟩ : ∃ S : List UInt8, S = lookB q := ⟨_, rfl⟩
  rw [← hS] at hno
  have HSB : Hid (lookB q = S) := hS.symm
  have hl0 : (((S.length : Nat) : Int) == 0) = true := by rw [hno]; rfl
  clear hno hS
  have HBK := Lib.hid (look_back (lookR_of hF))
  have XS : Hid (cs.size = 328) := hs.size
  have X0 : Hid ((w.alloc (.cells cs 57)).heap[w.heap.size]? = some (.cells cs 57 (0, 0))) := heap_alloc_new w _
  have D0 : Hid (Below w.heap.size w (w.alloc (.cells cs 57))) := (Below.refl _ _).alloc (Nat.le_refl _) _
  have SX0 := Lib.hid (hs.below D0.out)
  have RB0 := Lib.hid ((hrd.keep fun _ hp => D0.out.cell hp).more D0.out.size)
  have Hc := Lib.hid hc
  have Hm := Lib.hid hm'
  clear hm hm' hs hrd hc hZ hE hF
  have TD0 : Hid True := trivial
  have TE0 : Hid True := trivial
  have TS0 : Hid True := trivial
  go_enter Try.func10, Try.ntmps10
  go_wp2_with (first
    | (go_at_call 12; go_must (refine (awake_any _).mono ?_; rintro e w1 ⟨rfl, hb⟩; have X1 := Lib.hid (heap_below X0.out hb); have D1 := Lib.hid (D0.out.trans (hb.mono D0.out.size)); have SX1 := Lib.hid (SX0.out.below hb); have RB1 := Lib.hid ((RB0.out.keep fun _ hp => hb.cell hp).more hb.size); clear hb))
    | (go_at_call 33; have hx_ := TE1; go_must (refine (EncodeLookup_any w6 Yc (lookR l) xY (SY6.out)).mono ?_; rintro e w7 ⟨v, rfl, ho, hb⟩; rw [HBK.out.2.1]; rw [HBK.out.1] at ho; obtain ⟨A7, c7, rfl, hc_, hr_⟩ := own8_form ho; have X7 := Lib.hid (heap_below X6.out hb); have D7 := Lib.hid (D6.out.trans (hb.mono D6.out.size)); have SX7 := Lib.hid (SX6.out.below hb); have RB7 := Lib.hid ((RB6.out.keep fun _ hp => hb.cell hp).more hb.size); have hsu := run_str8 hr_ c7; have hsb := run_str8 RB7.out c; clear ho hb hc_ hr_ TE1 hx_))
    | (go_at_call 33; have hx_ := TE0; go_must (refine (EncodeLookup_any w1 cs q x (SX1.out)).mono ?_; rintro e w2 ⟨v, rfl, ho, hb⟩; rw [HE.out]; rw [HSB.out] at ho; obtain ⟨A2, c2, rfl, hc_, hr_⟩ := own8_form ho; have RS2 := Lib.hid (hr_); have C2 := Lib.hid (hc_); have X2 := Lib.hid (heap_below X1.out hb); have D2 := Lib.hid (D1.out.trans (hb.mono D1.out.size)); have SX2 := Lib.hid (SX1.out.below hb); have RB2 := Lib.hid ((RB1.out.keep fun _ hp => hb.cell hp).more hb.size); have TE1 := hx_; clear ho hb hc_ hr_ TE0 hx_))
    | (go_at_call 34; go_must (refine (rEncodeLookup_any w2 cs q x (SX2.out)).mono ?_; rintro e w3 ⟨v, rfl, ho, hb⟩; rw [HE.out]; rw [HSB.out] at ho; obtain ⟨A3, c3, rfl, hc_, hr_⟩ := own8_form ho; have RT3 := Lib.hid (hr_); have C3 := Lib.hid (hc_); have X3 := Lib.hid (heap_below X2.out hb); have D3 := Lib.hid (D2.out.trans (hb.mono D2.out.size)); have SX3 := Lib.hid (SX2.out.below hb); have RB3 := Lib.hid ((RB2.out.keep fun _ hp => hb.cell hp).more hb.size); have RS3 := Lib.hid ((RS2.out.keep fun _ hp => hb.cell hp).more hb.size); clear ho hb hc_ hr_))
    | (go_at_call 35; have hx_ := TD0; go_must (refine (DecodeLookup_any A c l _ (RB3.out) Hc.out Hm.out).mono ?_; rintro e w4 ⟨Yc, xY, rfl, hy, oy, hb⟩; rw [HF.out]; have YS := Lib.hid (hy.size); have YO := Lib.hid (oy); have rn := row_new w4 Zz Yc 57; have SY4 := Lib.hid (hy.below rn.1); have Y4 := Lib.hid (rn.2.1); have AN4 := Lib.hid (heap_alloc_new w4 (.cells Zz 57)); have hb2 := hb.trans (rn.1.mono hb.size); have X4 := Lib.hid (heap_below X3.out hb2); have D4 := Lib.hid (D3.out.trans (hb2.mono D3.out.size)); have SX4 := Lib.hid (SX3.out.below hb2); have RB4 := Lib.hid ((RB3.out.keep fun _ hp => hb2.cell hp).more hb2.size); have RS4 := Lib.hid ((RS3.out.keep fun _ hp => hb2.cell hp).more hb2.size); have RT4 := Lib.hid ((RT3.out.keep fun _ hp => hb2.cell hp).more hb2.size); have TD1 := hx_; clear TD0 hx_; clear hy oy rn hb hb2))
    | (go_at_call 36; go_must (refine (rDecodeLookup_any A c l _ (RB4.out) Hc.out Hm.out).mono ?_; rintro e w5 ⟨Zc, xZ, rfl, hy, oy, hb⟩; rw [HF.out]; have ZS := Lib.hid (hy.size); have ZO := Lib.hid (oy); have rn := row_new w5 Zz Zc 57; have SZ5 := Lib.hid (hy.below rn.1); have Z5 := Lib.hid (rn.2.1); have AN5 := Lib.hid (heap_alloc_new w5 (.cells Zz 57)); have hb2 := hb.trans (rn.1.mono hb.size); have X5 := Lib.hid (heap_below X4.out hb2); have D5 := Lib.hid (D4.out.trans (hb2.mono D4.out.size)); have SX5 := Lib.hid (SX4.out.below hb2); have RB5 := Lib.hid ((RB4.out.keep fun _ hp => hb2.cell hp).more hb2.size); have RS5 := Lib.hid ((RS4.out.keep fun _ hp => hb2.cell hp).more hb2.size); have RT5 := Lib.hid ((RT4.out.keep fun _ hp => hb2.cell hp).more hb2.size); have Y5 := Lib.hid (heap_below Y4.out hb2); have SY5 := Lib.hid (SY4.out.below hb2); have hs2 := run_str8 RS5.out c2; have hs3 := run_str8 RT5.out c3; clear hy oy rn hb hb2))
    | (go_at_call 37; have hx_ := TS0; go_must (refine (SameLookup_any _ Yc Zc (lookR l) xY xZ SY5.out SZ5.out).mono ?_; rintro e w6 ⟨rfl, hb⟩; have X6 := Lib.hid (heap_below X5.out hb); have D6 := Lib.hid (D5.out.trans (hb.mono D5.out.size)); have SX6 := Lib.hid (SX5.out.below hb); have RB6 := Lib.hid ((RB5.out.keep fun _ hp => hb.cell hp).more hb.size); have RS6 := Lib.hid ((RS5.out.keep fun _ hp => hb.cell hp).more hb.size); have Y6 := Lib.hid (heap_below Y5.out hb); have SY6 := Lib.hid (SY5.out.below hb); have TS1 := hx_; clear hb TS0 hx_ hs2 hs3))
    | (refine wpList_store_row rfl _ _ _ rfl w4.heap.size Yc rfl rfl 57 Zz (by with_reducible exact AN4.out) (by rw [YS.out]; kernel_rfl) (by rw [YS.out, HZz.out]) (by exact YO.out) ?_)
    | (refine wpList_store_row rfl _ _ _ rfl w5.heap.size Zc rfl rfl 57 Zz (by with_reducible exact AN5.out) (by rw [ZS.out]; kernel_rfl) (by rw [ZS.out, HZz.out]) (by exact ZO.out) ?_)
    | (refine wpList_load_look (by kernel_rfl) _ rfl _ cs (by with_reducible exact range_row X1.out) XS.out rfl rfl ?_)
    | (refine wpList_load_look (by kernel_rfl) _ rfl _ cs (by with_reducible exact range_row X2.out) XS.out rfl rfl ?_)
    | (refine wpList_load_look (by kernel_rfl) _ rfl _ Yc (by with_reducible exact range_row Y5.out) YS.out rfl rfl ?_)
    | (refine wpList_load_look (by kernel_rfl) _ rfl _ Zc (by with_reducible exact range_row Z5.out) ZS.out rfl rfl ?_)
    | (refine wpList_load_look (by kernel_rfl) _ rfl _ Yc (by with_reducible exact range_row Y6.out) YS.out rfl rfl ?_))
  all_goals (first | go_ret | (refine bodyPost_ret (v := .bool true) (by simp [results, Try.results10]) rfl ?_))
  all_goals exact ⟨rfl, D7.out⟩
set_option maxRecDepth 100000 in
set_option maxHeartbeats 4000000 in
theorem WireLookups_12 (w : World) (cs : Array Value) (q : LookV) (x : LookA) (hs : LookIn w cs q x) (v1 : Value) (l : List UInt8) (a1 : ArgB w v1 l) (hE : lookE q = 1) (hF : lookF l = 2) : Calls Try.prog 10 #[.agg cs, v1] w fun e w' => e = .returned (.bool true) ∧ Below w.heap.size w w' := by
  obtain ⟨A, c, rfl, hc, hrd, hm⟩ := a1
  rw [reach_eq] at hm
  have hm' : l.length ≤ 140737488355328 := by omega
  obtain ⟨Zz, hZ⟩ : ∃ Z : Array Value, Z = lookZ := ⟨_, rfl⟩
  have hz := hz57
  rw [← hZ] at hz
  have HZz : Hid (Zz.size = 328) := by show _ = _; rw [hZ]; exact lookC_size rootZ_ok z80_len z80_len
  have HE := Lib.hid hE
  have HF := Lib.hid hF
  have hno := look_none (q := q) (by rw [hE]; decide)
  obtain ⟨S, hS⟩ : ∃ S : List UInt8, S = lookB q := ⟨_, rfl⟩
  rw [← hS] at hno
  have HSB : Hid (lookB q = S) := hS.symm
  have hl0 : (((S.length : Nat) : Int) == 0) = true := by rw [hno]; rfl
  clear hno hS
  have XS : Hid (cs.size = 328) := hs.size
  have X0 : Hid ((w.alloc (.cells cs 57)).heap[w.heap.size]? = some (.cells cs 57 (0, 0))) := heap_alloc_new w _
  have D0 : Hid (Below w.heap.size w (w.alloc (.cells cs 57))) := (Below.refl _ _).alloc (Nat.le_refl _) _
  have SX0 := Lib.hid (hs.below D0.out)
  have RB0 := Lib.hid ((hrd.keep fun _ hp => D0.out.cell hp).more D0.out.size)
  have Hc := Lib.hid hc
  have Hm := Lib.hid hm'
  clear hm hm' hs hrd hc hZ hE hF
  have TD0 : Hid True := trivial
  have TE0 : Hid True := trivial
  have TS0 : Hid True := trivial
  go_enter Try.func10, Try.ntmps10
  go_wp2_with (first
    | (go_at_call 12; go_must (refine (awake_any _).mono ?_; rintro e w1 ⟨rfl, hb⟩; have X1 := Lib.hid (heap_below X0.out hb); have D1 := Lib.hid (D0.out.trans (hb.mono D0.out.size)); have SX1 := Lib.hid (SX0.out.below hb); have RB1 := Lib.hid ((RB0.out.keep fun _ hp => hb.cell hp).more hb.size); clear hb))
    | (go_at_call 33; have hx_ := TE0; go_must (refine (EncodeLookup_any w1 cs q x (SX1.out)).mono ?_; rintro e w2 ⟨v, rfl, ho, hb⟩; rw [HE.out]; rw [HSB.out] at ho; obtain ⟨A2, c2, rfl, hc_, hr_⟩ := own8_form ho; have RS2 := Lib.hid (hr_); have C2 := Lib.hid (hc_); have X2 := Lib.hid (heap_below X1.out hb); have D2 := Lib.hid (D1.out.trans (hb.mono D1.out.size)); have SX2 := Lib.hid (SX1.out.below hb); have RB2 := Lib.hid ((RB1.out.keep fun _ hp => hb.cell hp).more hb.size); have TE1 := hx_; clear ho hb hc_ hr_ TE0 hx_))
    | (go_at_call 34; go_must (refine (rEncodeLookup_any w2 cs q x (SX2.out)).mono ?_; rintro e w3 ⟨v, rfl, ho, hb⟩; rw [HE.out]; rw [HSB.out] at ho; obtain ⟨A3, c3, rfl, hc_, hr_⟩ := own8_form ho; have RT3 := Lib.hid (hr_); have C3 := Lib.hid (hc_); have X3 := Lib.hid (heap_below X2.out hb); have D3 := Lib.hid (D2.out.trans (hb.mono D2.out.size)); have SX3 := Lib.hid (SX2.out.below hb); have RB3 := Lib.hid ((RB2.out.keep fun _ hp => hb.cell hp).more hb.size); have RS3 := Lib.hid ((RS2.out.keep fun _ hp => hb.cell hp).more hb.size); clear ho hb hc_ hr_))
    | (go_at_call 35; have hx_ := TD0; go_must (refine (DecodeLookup_any A c l _ (RB3.out) Hc.out Hm.out).mono ?_; rintro e w4 ⟨Yc, xY, rfl, hy, oy, hb⟩; rw [HF.out]; have YS := Lib.hid (hy.size); have YO := Lib.hid (oy); have rn := row_new w4 Zz Yc 57; have SY4 := Lib.hid (hy.below rn.1); have Y4 := Lib.hid (rn.2.1); have AN4 := Lib.hid (heap_alloc_new w4 (.cells Zz 57)); have hb2 := hb.trans (rn.1.mono hb.size); have X4 := Lib.hid (heap_below X3.out hb2); have D4 := Lib.hid (D3.out.trans (hb2.mono D3.out.size)); have SX4 := Lib.hid (SX3.out.below hb2); have RB4 := Lib.hid ((RB3.out.keep fun _ hp => hb2.cell hp).more hb2.size); have RS4 := Lib.hid ((RS3.out.keep fun _ hp => hb2.cell hp).more hb2.size); have RT4 := Lib.hid ((RT3.out.keep fun _ hp => hb2.cell hp).more hb2.size); have TD1 := hx_; clear TD0 hx_; clear hy oy rn hb hb2))
    | (go_at_call 36; go_must (refine (rDecodeLookup_any A c l _ (RB4.out) Hc.out Hm.out).mono ?_; rintro e w5 ⟨Zc, xZ, rfl, hy, oy, hb⟩; rw [HF.out]; have ZS := Lib.hid (hy.size); have ZO := Lib.hid (oy); have rn := row_new w5 Zz Zc 57; have SZ5 := Lib.hid (hy.below rn.1); have Z5 := Lib.hid (rn.2.1); have AN5 := Lib.hid (heap_alloc_new w5 (.cells Zz 57)); have hb2 := hb.trans (rn.1.mono hb.size); have X5 := Lib.hid (heap_below X4.out hb2); have D5 := Lib.hid (D4.out.trans (hb2.mono D4.out.size)); have SX5 := Lib.hid (SX4.out.below hb2); have RB5 := Lib.hid ((RB4.out.keep fun _ hp => hb2.cell hp).more hb2.size); have RS5 := Lib.hid ((RS4.out.keep fun _ hp => hb2.cell hp).more hb2.size); have RT5 := Lib.hid ((RT4.out.keep fun _ hp => hb2.cell hp).more hb2.size); have Y5 := Lib.hid (heap_below Y4.out hb2); have SY5 := Lib.hid (SY4.out.below hb2); have hs2 := run_str8 RS5.out c2; have hs3 := run_str8 RT5.out c3; clear hy oy rn hb hb2))
    | (go_at_call 37; have hx_ := TS0; go_must (refine (SameLookup_any _ Yc Zc (lookR l) xY xZ SY5.out SZ5.out).mono ?_; rintro e w6 ⟨rfl, hb⟩; have X6 := Lib.hid (heap_below X5.out hb); have D6 := Lib.hid (D5.out.trans (hb.mono D5.out.size)); have SX6 := Lib.hid (SX5.out.below hb); have RB6 := Lib.hid ((RB5.out.keep fun _ hp => hb.cell hp).more hb.size); have RS6 := Lib.hid ((RS5.out.keep fun _ hp => hb.cell hp).more hb.size); have Y6 := Lib.hid (heap_below Y5.out hb); have SY6 := Lib.hid (SY5.out.below hb); have TS1 := hx_; clear hb TS0 hx_ hs2 hs3))
    | (refine wpList_store_row rfl _ _ _ rfl w4.heap.size Yc rfl rfl 57 Zz (by with_reducible exact AN4.out) (by rw [YS.out]; kernel_rfl) (by rw [YS.out, HZz.out]) (by exact YO.out) ?_)
    | (refine wpList_store_row rfl _ _ _ rfl w5.heap.size Zc rfl rfl 57 Zz (by with_reducible exact AN5.out) (by rw [ZS.out]; kernel_rfl) (by rw [ZS.out, HZz.out]) (by exact ZO.out) ?_)
    | (refine wpList_load_look (by kernel_rfl) _ rfl _ cs (by with_reducible exact range_row X1.out) XS.out rfl rfl ?_)
    | (refine wpList_load_look (by kernel_rfl) _ rfl _ cs (by with_reducible exact range_row X2.out) XS.out rfl rfl ?_)
    | (refine wpList_load_look (by kernel_rfl) _ rfl _ Yc (by with_reducible exact range_row Y5.out) YS.out rfl rfl ?_)
    | (refine wpList_load_look (by kernel_rfl) _ rfl _ Zc (by with_reducible exact range_row Z5.out) ZS.out rfl rfl ?_))
  all_goals (first | go_ret | (refine bodyPost_ret (v := .bool true) (by simp [results, Try.results10]) rfl ?_))
  all_goals exact ⟨rfl, D6.out⟩
set_option maxRecDepth 100000 in
set_option maxHeartbeats 4000000 in
theorem WireLookups_60 (w : World) (cs : Array Value) (q : LookV) (x : LookA) (hs : LookIn w cs q x) (v1 : Value) (l : List UInt8) (a1 : ArgB w v1 l) (hE : lookE q = 6) (hF : lookF l = 0) : Calls Try.prog 10 #[.agg cs, v1] w fun e w' => e = .returned (.bool true) ∧ Below w.heap.size w w' := by
  obtain ⟨A, c, rfl, hc, hrd, hm⟩ := a1
  rw [reach_eq] at hm
  have hm' : l.length ≤ 140737488355328 := by omega
  obtain ⟨Zz, hZ⟩ : ∃ Z : Array Value, Z = lookZ := ⟨_, rfl⟩
  have hz := hz57
  rw [← hZ] at hz
  have HZz : Hid (Zz.size = 328) := by show _ = _; rw [hZ]; exact lookC_size rootZ_ok z80_len z80_len
  have HE := Lib.hid hE
  have HF := Lib.hid hF
  have hno := look_none (q := q) (by rw [hE]; decide)
  obtain ⟨S, hS⟩ : ∃ S : List UInt8, S = lookB q := ⟨_, rfl⟩
  rw [← hS] at hno
  have HSB : Hid (lookB q = S) := hS.symm
  have hl0 : (((S.length : Nat) : Int) == 0) = true := by rw [hno]; rfl
  clear hno hS
  have HBK := Lib.hid (look_back (lookR_of hF))
  have XS : Hid (cs.size = 328) := hs.size
  have X0 : Hid ((w.alloc (.cells cs 57)).heap[w.heap.size]? = some (.cells cs 57 (0, 0))) := heap_alloc_new w _
  have D0 : Hid (Below w.heap.size w (w.alloc (.cells cs 57))) := (Below.refl _ _).alloc (Nat.le_refl _) _
  have SX0 := Lib.hid (hs.below D0.out)
  have RB0 := Lib.hid ((hrd.keep fun _ hp => D0.out.cell hp).more D0.out.size)
  have Hc := Lib.hid hc
  have Hm := Lib.hid hm'
  clear hm hm' hs hrd hc hZ hE hF
  have TD0 : Hid True := trivial
  have TE0 : Hid True := trivial
  have TS0 : Hid True := trivial
  go_enter Try.func10, Try.ntmps10
  go_wp2_with (first
    | (go_at_call 12; go_must (refine (awake_any _).mono ?_; rintro e w1 ⟨rfl, hb⟩; have X1 := Lib.hid (heap_below X0.out hb); have D1 := Lib.hid (D0.out.trans (hb.mono D0.out.size)); have SX1 := Lib.hid (SX0.out.below hb); have RB1 := Lib.hid ((RB0.out.keep fun _ hp => hb.cell hp).more hb.size); clear hb))
    | (go_at_call 33; have hx_ := TE1; go_must (refine (EncodeLookup_any w6 Yc (lookR l) xY (SY6.out)).mono ?_; rintro e w7 ⟨v, rfl, ho, hb⟩; rw [HBK.out.2.1]; rw [HBK.out.1] at ho; obtain ⟨A7, c7, rfl, hc_, hr_⟩ := own8_form ho; have X7 := Lib.hid (heap_below X6.out hb); have D7 := Lib.hid (D6.out.trans (hb.mono D6.out.size)); have SX7 := Lib.hid (SX6.out.below hb); have RB7 := Lib.hid ((RB6.out.keep fun _ hp => hb.cell hp).more hb.size); have hsu := run_str8 hr_ c7; have hsb := run_str8 RB7.out c; clear ho hb hc_ hr_ TE1 hx_))
    | (go_at_call 33; have hx_ := TE0; go_must (refine (EncodeLookup_any w1 cs q x (SX1.out)).mono ?_; rintro e w2 ⟨v, rfl, ho, hb⟩; rw [HE.out]; rw [HSB.out] at ho; obtain ⟨A2, c2, rfl, hc_, hr_⟩ := own8_form ho; have RS2 := Lib.hid (hr_); have C2 := Lib.hid (hc_); have X2 := Lib.hid (heap_below X1.out hb); have D2 := Lib.hid (D1.out.trans (hb.mono D1.out.size)); have SX2 := Lib.hid (SX1.out.below hb); have RB2 := Lib.hid ((RB1.out.keep fun _ hp => hb.cell hp).more hb.size); have TE1 := hx_; clear ho hb hc_ hr_ TE0 hx_))
    | (go_at_call 34; go_must (refine (rEncodeLookup_any w2 cs q x (SX2.out)).mono ?_; rintro e w3 ⟨v, rfl, ho, hb⟩; rw [HE.out]; rw [HSB.out] at ho; obtain ⟨A3, c3, rfl, hc_, hr_⟩ := own8_form ho; have RT3 := Lib.hid (hr_); have C3 := Lib.hid (hc_); have X3 := Lib.hid (heap_below X2.out hb); have D3 := Lib.hid (D2.out.trans (hb.mono D2.out.size)); have SX3 := Lib.hid (SX2.out.below hb); have RB3 := Lib.hid ((RB2.out.keep fun _ hp => hb.cell hp).more hb.size); have RS3 := Lib.hid ((RS2.out.keep fun _ hp => hb.cell hp).more hb.size); clear ho hb hc_ hr_))
    | (go_at_call 35; have hx_ := TD0; go_must (refine (DecodeLookup_any A c l _ (RB3.out) Hc.out Hm.out).mono ?_; rintro e w4 ⟨Yc, xY, rfl, hy, oy, hb⟩; rw [HF.out]; have YS := Lib.hid (hy.size); have YO := Lib.hid (oy); have rn := row_new w4 Zz Yc 57; have SY4 := Lib.hid (hy.below rn.1); have Y4 := Lib.hid (rn.2.1); have AN4 := Lib.hid (heap_alloc_new w4 (.cells Zz 57)); have hb2 := hb.trans (rn.1.mono hb.size); have X4 := Lib.hid (heap_below X3.out hb2); have D4 := Lib.hid (D3.out.trans (hb2.mono D3.out.size)); have SX4 := Lib.hid (SX3.out.below hb2); have RB4 := Lib.hid ((RB3.out.keep fun _ hp => hb2.cell hp).more hb2.size); have RS4 := Lib.hid ((RS3.out.keep fun _ hp => hb2.cell hp).more hb2.size); have RT4 := Lib.hid ((RT3.out.keep fun _ hp => hb2.cell hp).more hb2.size); have TD1 := hx_; clear TD0 hx_; clear hy oy rn hb hb2))
    | (go_at_call 36; go_must (refine (rDecodeLookup_any A c l _ (RB4.out) Hc.out Hm.out).mono ?_; rintro e w5 ⟨Zc, xZ, rfl, hy, oy, hb⟩; rw [HF.out]; have ZS := Lib.hid (hy.size); have ZO := Lib.hid (oy); have rn := row_new w5 Zz Zc 57; have SZ5 := Lib.hid (hy.below rn.1); have Z5 := Lib.hid (rn.2.1); have AN5 := Lib.hid (heap_alloc_new w5 (.cells Zz 57)); have hb2 := hb.trans (rn.1.mono hb.size); have X5 := Lib.hid (heap_below X4.out hb2); have D5 := Lib.hid (D4.out.trans (hb2.mono D4.out.size)); have SX5 := Lib.hid (SX4.out.below hb2); have RB5 := Lib.hid ((RB4.out.keep fun _ hp => hb2.cell hp).more hb2.size); have RS5 := Lib.hid ((RS4.out.keep fun _ hp => hb2.cell hp).more hb2.size); have RT5 := Lib.hid ((RT4.out.keep fun _ hp => hb2.cell hp).more hb2.size); have Y5 := Lib.hid (heap_below Y4.out hb2); have SY5 := Lib.hid (SY4.out.below hb2); have hs2 := run_str8 RS5.out c2; have hs3 := run_str8 RT5.out c3; clear hy oy rn hb hb2))
    | (go_at_call 37; have hx_ := TS0; go_must (refine (SameLookup_any _ Yc Zc (lookR l) xY xZ SY5.out SZ5.out).mono ?_; rintro e w6 ⟨rfl, hb⟩; have X6 := Lib.hid (heap_below X5.out hb); have D6 := Lib.hid (D5.out.trans (hb.mono D5.out.size)); have SX6 := Lib.hid (SX5.out.below hb); have RB6 := Lib.hid ((RB5.out.keep fun _ hp => hb.cell hp).more hb.size); have RS6 := Lib.hid ((RS5.out.keep fun _ hp => hb.cell hp).more hb.size); have Y6 := Lib.hid (heap_below Y5.out hb); have SY6 := Lib.hid (SY5.out.below hb); have TS1 := hx_; clear hb TS0 hx_ hs2 hs3))
    | (refine wpList_store_row rfl _ _ _ rfl w4.heap.size Yc rfl rfl 57 Zz (by with_reducible exact AN4.out) (by rw [YS.out]; kernel_rfl) (by rw [YS.out, HZz.out]) (by exact YO.out) ?_)
    | (refine wpList_store_row rfl _ _ _ rfl w5.heap.size Zc rfl rfl 57 Zz (by with_reducible exact AN5.out) (by rw [ZS.out]; kernel_rfl) (by rw [ZS.out, HZz.out]) (by exact ZO.out) ?_)
    | (refine wpList_load_look (by kernel_rfl) _ rfl _ cs (by with_reducible exact range_row X1.out) XS.out rfl rfl ?_)
    | (refine wpList_load_look (by kernel_rfl) _ rfl _ cs (by with_reducible exact range_row X2.out) XS.out rfl rfl ?_)
    | (refine wpList_load_look (by kernel_rfl) _ rfl _ Yc (by with_reducible exact range_row Y5.out) YS.out rfl rfl ?_)
    | (refine wpList_load_look (by kernel_rfl) _ rfl _ Zc (by with_reducible exact range_row Z5.out) ZS.out rfl rfl ?_)
    | (refine wpList_load_look (by kernel_rfl) _ rfl _ Yc (by with_reducible exact range_row Y6.out) YS.out rfl rfl ?_))
  all_goals (first | go_ret | (refine bodyPost_ret (v := .bool true) (by simp [results, Try.results10]) rfl ?_))
  all_goals exact ⟨rfl, D7.out⟩
set_option maxRecDepth 100000 in
set_option maxHeartbeats 4000000 in
theorem WireLookups_62 (w : World) (cs : Array Value) (q : LookV) (x : LookA) (hs : LookIn w cs q x) (v1 : Value) (l : List UInt8) (a1 : ArgB w v1 l) (hE : lookE q = 6) (hF : lookF l = 2) : Calls Try.prog 10 #[.agg cs, v1] w fun e w' => e = .returned (.bool true) ∧ Below w.heap.size w w' := by
  obtain ⟨A, c, rfl, hc, hrd, hm⟩ := a1
  rw [reach_eq] at hm
  have hm' : l.length ≤ 140737488355328 := by omega
  obtain ⟨Zz, hZ⟩ : ∃ Z : Array Value, Z = lookZ := ⟨_, rfl⟩
  have hz := hz57
  rw [← hZ] at hz
  have HZz : Hid (Zz.size = 328) := by show _ = _; rw [hZ]; exact lookC_size rootZ_ok z80_len z80_len
  have HE := Lib.hid hE
  have HF := Lib.hid hF
  have hno := look_none (q := q) (by rw [hE]; decide)
  obtain ⟨S, hS⟩ : ∃ S : List UInt8, S = lookB q := ⟨_, rfl⟩
  rw [← hS] at hno
  have HSB : Hid (lookB q = S) := hS.symm
  have hl0 : (((S.length : Nat) : Int) == 0) = true := by rw [hno]; rfl
  clear hno hS
  have XS : Hid (cs.size = 328) := hs.size
  have X0 : Hid ((w.alloc (.cells cs 57)).heap[w.heap.size]? = some (.cells cs 57 (0, 0))) := heap_alloc_new w _
  have D0 : Hid (Below w.heap.size w (w.alloc (.cells cs 57))) := (Below.refl _ _).alloc (Nat.le_refl _) _
  have SX0 := Lib.hid (hs.below D0.out)
  have RB0 := Lib.hid ((hrd.keep fun _ hp => D0.out.cell hp).more D0.out.size)
  have Hc := Lib.hid hc
  have Hm := Lib.hid hm'
  clear hm hm' hs hrd hc hZ hE hF
  have TD0 : Hid True := trivial
  have TE0 : Hid True := trivial
  have TS0 : Hid True := trivial
  go_enter Try.func10, Try.ntmps10
  go_wp2_with (first
    | (go_at_call 12; go_must (refine (awake_any _).mono ?_; rintro e w1 ⟨rfl, hb⟩; have X1 := Lib.hid (heap_below X0.out hb); have D1 := Lib.hid (D0.out.trans (hb.mono D0.out.size)); have SX1 := Lib.hid (SX0.out.below hb); have RB1 := Lib.hid ((RB0.out.keep fun _ hp => hb.cell hp).more hb.size); clear hb))
    | (go_at_call 33; have hx_ := TE0; go_must (refine (EncodeLookup_any w1 cs q x (SX1.out)).mono ?_; rintro e w2 ⟨v, rfl, ho, hb⟩; rw [HE.out]; rw [HSB.out] at ho; obtain ⟨A2, c2, rfl, hc_, hr_⟩ := own8_form ho; have RS2 := Lib.hid (hr_); have C2 := Lib.hid (hc_); have X2 := Lib.hid (heap_below X1.out hb); have D2 := Lib.hid (D1.out.trans (hb.mono D1.out.size)); have SX2 := Lib.hid (SX1.out.below hb); have RB2 := Lib.hid ((RB1.out.keep fun _ hp => hb.cell hp).more hb.size); have TE1 := hx_; clear ho hb hc_ hr_ TE0 hx_))
    | (go_at_call 34; go_must (refine (rEncodeLookup_any w2 cs q x (SX2.out)).mono ?_; rintro e w3 ⟨v, rfl, ho, hb⟩; rw [HE.out]; rw [HSB.out] at ho; obtain ⟨A3, c3, rfl, hc_, hr_⟩ := own8_form ho; have RT3 := Lib.hid (hr_); have C3 := Lib.hid (hc_); have X3 := Lib.hid (heap_below X2.out hb); have D3 := Lib.hid (D2.out.trans (hb.mono D2.out.size)); have SX3 := Lib.hid (SX2.out.below hb); have RB3 := Lib.hid ((RB2.out.keep fun _ hp => hb.cell hp).more hb.size); have RS3 := Lib.hid ((RS2.out.keep fun _ hp => hb.cell hp).more hb.size); clear ho hb hc_ hr_))
    | (go_at_call 35; have hx_ := TD0; go_must (refine (DecodeLookup_any A c l _ (RB3.out) Hc.out Hm.out).mono ?_; rintro e w4 ⟨Yc, xY, rfl, hy, oy, hb⟩; rw [HF.out]; have YS := Lib.hid (hy.size); have YO := Lib.hid (oy); have rn := row_new w4 Zz Yc 57; have SY4 := Lib.hid (hy.below rn.1); have Y4 := Lib.hid (rn.2.1); have AN4 := Lib.hid (heap_alloc_new w4 (.cells Zz 57)); have hb2 := hb.trans (rn.1.mono hb.size); have X4 := Lib.hid (heap_below X3.out hb2); have D4 := Lib.hid (D3.out.trans (hb2.mono D3.out.size)); have SX4 := Lib.hid (SX3.out.below hb2); have RB4 := Lib.hid ((RB3.out.keep fun _ hp => hb2.cell hp).more hb2.size); have RS4 := Lib.hid ((RS3.out.keep fun _ hp => hb2.cell hp).more hb2.size); have RT4 := Lib.hid ((RT3.out.keep fun _ hp => hb2.cell hp).more hb2.size); have TD1 := hx_; clear TD0 hx_; clear hy oy rn hb hb2))
    | (go_at_call 36; go_must (refine (rDecodeLookup_any A c l _ (RB4.out) Hc.out Hm.out).mono ?_; rintro e w5 ⟨Zc, xZ, rfl, hy, oy, hb⟩; rw [HF.out]; have ZS := Lib.hid (hy.size); have ZO := Lib.hid (oy); have rn := row_new w5 Zz Zc 57; have SZ5 := Lib.hid (hy.below rn.1); have Z5 := Lib.hid (rn.2.1); have AN5 := Lib.hid (heap_alloc_new w5 (.cells Zz 57)); have hb2 := hb.trans (rn.1.mono hb.size); have X5 := Lib.hid (heap_below X4.out hb2); have D5 := Lib.hid (D4.out.trans (hb2.mono D4.out.size)); have SX5 := Lib.hid (SX4.out.below hb2); have RB5 := Lib.hid ((RB4.out.keep fun _ hp => hb2.cell hp).more hb2.size); have RS5 := Lib.hid ((RS4.out.keep fun _ hp => hb2.cell hp).more hb2.size); have RT5 := Lib.hid ((RT4.out.keep fun _ hp => hb2.cell hp).more hb2.size); have Y5 := Lib.hid (heap_below Y4.out hb2); have SY5 := Lib.hid (SY4.out.below hb2); have hs2 := run_str8 RS5.out c2; have hs3 := run_str8 RT5.out c3; clear hy oy rn hb hb2))
    | (go_at_call 37; have hx_ := TS0; go_must (refine (SameLookup_any _ Yc Zc (lookR l) xY xZ SY5.out SZ5.out).mono ?_; rintro e w6 ⟨rfl, hb⟩; have X6 := Lib.hid (heap_below X5.out hb); have D6 := Lib.hid (D5.out.trans (hb.mono D5.out.size)); have SX6 := Lib.hid (SX5.out.below hb); have RB6 := Lib.hid ((RB5.out.keep fun _ hp => hb.cell hp).more hb.size); have RS6 := Lib.hid ((RS5.out.keep fun _ hp => hb.cell hp).more hb.size); have Y6 := Lib.hid (heap_below Y5.out hb); have SY6 := Lib.hid (SY5.out.below hb); have TS1 := hx_; clear hb TS0 hx_ hs2 hs3))
    | (refine wpList_store_row rfl _ _ _ rfl w4.heap.size Yc rfl rfl 57 Zz (by with_reducible exact AN4.out) (by rw [YS.out]; kernel_rfl) (by rw [YS.out, HZz.out]) (by exact YO.out) ?_)
    | (refine wpList_store_row rfl _ _ _ rfl w5.heap.size Zc rfl rfl 57 Zz (by with_reducible exact AN5.out) (by rw [ZS.out]; kernel_rfl) (by rw [ZS.out, HZz.out]) (by exact ZO.out) ?_)
    | (refine wpList_load_look (by kernel_rfl) _ rfl _ cs (by with_reducible exact range_row X1.out) XS.out rfl rfl ?_)
    | (refine wpList_load_look (by kernel_rfl) _ rfl _ cs (by with_reducible exact range_row X2.out) XS.out rfl rfl ?_)
    | (refine wpList_load_look (by kernel_rfl) _ rfl _ Yc (by with_reducible exact range_row Y5.out) YS.out rfl rfl ?_)
    | (refine wpList_load_look (by kernel_rfl) _ rfl _ Zc (by with_reducible exact range_row Z5.out) ZS.out rfl rfl ?_))
  all_goals (first | go_ret | (refine bodyPost_ret (v := .bool true) (by simp [results, Try.results10]) rfl ?_))
  all_goals exact ⟨rfl, D6.out⟩
theorem WireLookups_walk (v0 v1 : Value) (q : LookV) (l : List UInt8) (w : World) (a0 : ArgLook w v0 q) (a1 : ArgB w v1 l) : Calls Try.prog 10 #[v0, v1] w fun e w' => e = .returned (.bool true) ∧ Below w.heap.size w w' := by
  obtain ⟨cs, x, rfl, hs⟩ := a0
  rcases lookE_cases q with hE | hE | hE <;> rcases lookF_cases l with hF | hF
  · exact WireLookups_00 w cs q x hs v1 l a1 hE hF
  · exact WireLookups_02 w cs q x hs v1 l a1 hE hF
  · exact WireLookups_10 w cs q x hs v1 l a1 hE hF
  · exact WireLookups_12 w cs q x hs v1 l a1 hE hF
  · exact WireLookups_60 w cs q x hs v1 l a1 hE hF
  · exact WireLookups_62 w cs q x hs v1 l a1 hE hF
end Go.Proofs.Ytbpgbihcihnieaa
