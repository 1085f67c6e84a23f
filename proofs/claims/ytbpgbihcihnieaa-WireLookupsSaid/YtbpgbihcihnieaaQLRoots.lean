/- The texts LRoots of this work, merged by wip/merge.py. No conditions. -/
import Derived.Test.YtbpgbihcihnieaaQV11
namespace Go.Proofs.Ytbpgbihcihnieaa
open Go.RowKit
theorem signB_le {r : RootV} (h : r.ok) : (signB r).length ≤ 1048576 := by
  rw [signB, encB_ok (signL_ok h), List.length_append, be4_length, members_length]
  simp [signL, bulk, signedW, rootB_length h, h.s]
theorem wpList_load_root {ops : Array Oper} {rest : List Oper} {op : Oper} {a : Act} {w : World} {Q : Exit → Act → World → Prop} (hw : Region.wanted op (yielded ops a.tmps) = true) (x : Operand) (ho : op.op = .load 47 x)
    (b : Nat) (xs : Array Value) (hr : w.rangeAt b 0 xs.toList) (hs : xs.size = 163) (hx : a.eval x = .pointer (some ⟨b, 0, none⟩)) {d : Nat} (hd : op.dst = some d)
    (h : wpList Try.prog ops Q rest { a with tmps := a.tmps.setIfInBounds d (.agg xs) } w) : wpList Try.prog ops Q (op :: rest) a w := by
  unfold wpList
  rw [if_pos hw]
  refine .inl (wp_load_mid 47 x ho b 0 hx xs.toList _ hr Try.underlying47 rfl (by rw [Array.length_toList, hs]; kernel_rfl) ?_)
  rw [Array.toArray_toList, hd]
  exact h
set_option maxRecDepth 100000 in
set_option maxHeartbeats 4000000 in
theorem WireRoots_yes (r : RootV) (hr : r.ok) (v1 : Value) (l : List UInt8) (w : World) (a1 : ArgB w v1 l) (r' : RootV) (hd : rootD l = some r') : Calls Try.prog 9 #[.agg r.cs, v1] w fun e w' => e = .returned (.bool true) ∧ Below w.heap.size w w' := by
  obtain ⟨A, c, rfl, hc, hrd, hm⟩ := a1
  rw [reach_eq] at hm
  have hm' : l.length ≤ 140737488355328 := by omega
  obtain ⟨Z, hZ⟩ : ∃ Z : Array Value, Z = rootZ.cs := ⟨_, rfl⟩
  have hz := hz47
  rw [← hZ] at hz
  have HZz : Hid (Z.size = 163) := by show _ = _; rw [hZ]; decide
  have HD := Lib.hid hd
  have Hr := Lib.hid hr
  obtain ⟨X, hX⟩ : ∃ X : Array Value, X = r'.cs := ⟨_, rfl⟩
  have HX := Lib.hid hX
  have Xok : Hid (r'.ok) := (root_enc_dec hd).2
  have XZ : Hid (X.size = 163) := by show _ = _; rw [hX]; exact root_size Xok.out
  have hPX : rootR l = r' ∧ rootE l = 0 := root_yes hd
  have HPX := Lib.hid hPX
  obtain ⟨cs, hcs⟩ : ∃ cs : Array Value, cs = r.cs := ⟨_, rfl⟩
  rw [← hcs]
  have HC := Lib.hid hcs
  have CZ : Hid (cs.size = 163) := by show _ = _; rw [hcs]; exact root_size hr
  have heqX : ∀ w, (Op.equalIn 10000 47 (.agg X) (.agg X)).run Try.prog w = .ok true w := fun w => by rw [hX]; exact eq_root Xok.out w
  have heqC : ∀ w, (Op.equalIn 10000 47 (.agg cs) (.agg cs)).run Try.prog w = .ok true w := fun w => by rw [hcs]; exact eq_root Hr.out w
  have K0 : Hid ((w.alloc (.cells cs 47)).heap[w.heap.size]? = some (.cells cs 47 (0, 0)) ∧ Below w.heap.size w (w.alloc (.cells cs 47))) := ⟨heap_alloc_new w _, (Below.refl _ _).alloc (Nat.le_refl _) _⟩
  have HR := Lib.hid hrd
  have Hc := Lib.hid hc
  have Hm := Lib.hid hm'
  clear hm hm' hd hr hX hPX hcs hrd hc hZ
  have TD0 : Hid True := trivial
  go_enter Try.func9, Try.ntmps9
  go_wp2_with (first
    | (go_at_call 12; go_must (refine (awake_any _).mono ?_; rintro e w1 ⟨rfl, hb⟩; have K1 := Lib.hid (And.intro (heap_below K0.out.1 hb) (K0.out.2.trans (hb.mono K0.out.2.size))); clear hb))
    | (go_at_call 27; have hx_ := TD1; go_must (refine (DecodeRoot_any Ae ce (signB r) w4 RE.out.2 RE.out.1 (by have h_ := LE.out; omega)).mono ?_; rintro e w5 ⟨rfl, hb⟩; rw [(root_yes (root_dec_enc Hr.out)).1, (root_yes (root_dec_enc Hr.out)).2, ← HC.out]; have RN := Lib.hid (row_new w5 Z cs 47); have AN5 := Lib.hid (heap_alloc_new w5 (.cells Z 47)); have hb2 := hb.trans (RN.out.1.mono hb.size); have K5 := Lib.hid (And.intro (heap_below K4.out.1 hb2) (And.intro (K4.out.2.1.trans (hb2.mono K4.out.2.1.size)) (And.intro (heap_below K4.out.2.2.1 hb2) (And.intro (heap_below K4.out.2.2.2 hb2) RN.out.2.1)))); clear hb hb2 TD1 hx_))
    | (go_at_call 27; have hx_ := TD0; go_must (refine (DecodeRoot_any A c l w1 ((HR.out.keep fun _ hp => K1.out.2.cell hp).more K1.out.2.size) Hc.out Hm.out).mono ?_; rintro e w2 ⟨rfl, hb⟩; rw [HPX.out.1, HPX.out.2, ← HX.out]; have RN := Lib.hid (row_new w2 Z X 47); have AN2 := Lib.hid (heap_alloc_new w2 (.cells Z 47)); have hb2 := hb.trans (RN.out.1.mono hb.size); have K2 := Lib.hid (And.intro (heap_below K1.out.1 hb2) (And.intro (K1.out.2.trans (hb2.mono K1.out.2.size)) RN.out.2.1)); have TD1 := hx_; clear hb hb2 TD0 hx_ RN))
    | (go_at_call 28; go_must (refine (rDecodeRoot_any A c l _ ((HR.out.keep fun _ hp => K2.out.2.1.cell hp).more K2.out.2.1.size) Hc.out Hm.out).mono ?_; rintro e w3 ⟨rfl, hb⟩; rw [HPX.out.1, HPX.out.2, ← HX.out]; have RN := Lib.hid (row_new w3 Z X 47); have AN3 := Lib.hid (heap_alloc_new w3 (.cells Z 47)); have hb2 := hb.trans (RN.out.1.mono hb.size); have K3 := Lib.hid (And.intro (heap_below K2.out.1 hb2) (And.intro (K2.out.2.1.trans (hb2.mono K2.out.2.1.size)) (And.intro (heap_below K2.out.2.2 hb2) RN.out.2.1))); clear hb hb2 RN))
    | (go_at_call 29; go_must (rw [HC.out]; refine (EncodeRoot_any r Hr.out _).mono ?_; rintro e w4 ⟨v, rfl, ho, hb⟩; obtain ⟨Ae, ce, rfl, hce, hre⟩ := own8_form ho; have RE := Lib.hid (And.intro hce hre); have LE : Hid ((signB r).length ≤ 1048576) := signB_le Hr.out; have K4 := Lib.hid (And.intro (heap_below K3.out.1 hb) (And.intro (K3.out.2.1.trans (hb.mono K3.out.2.1.size)) (And.intro (heap_below K3.out.2.2.1 hb) (heap_below K3.out.2.2.2 hb)))); rw [← HC.out]; clear ho hb hce hre))
    | (refine wpList_store_row rfl _ _ _ rfl w2.heap.size X rfl rfl 47 Z (by with_reducible exact AN2.out) (by rw [XZ.out]; kernel_rfl) (by rw [XZ.out, HZz.out]) (by rw [HX.out]; exact root_one) ?_)
    | (refine wpList_store_row rfl _ _ _ rfl w3.heap.size X rfl rfl 47 Z (by with_reducible exact AN3.out) (by rw [XZ.out]; kernel_rfl) (by rw [XZ.out, HZz.out]) (by rw [HX.out]; exact root_one) ?_)
    | (refine wpList_store_row rfl _ _ _ rfl w5.heap.size cs rfl rfl 47 Z (by with_reducible exact AN5.out) (by rw [CZ.out]; kernel_rfl) (by rw [CZ.out, HZz.out]) (by rw [HC.out]; exact root_one) ?_)
    | (refine wpList_load_root (by kernel_rfl) _ rfl w.heap.size cs (by with_reducible exact range_row K3.out.1) CZ.out rfl rfl ?_)
    | (refine wpList_load_root (by kernel_rfl) _ rfl w.heap.size cs (by with_reducible exact range_row K5.out.1) CZ.out rfl rfl ?_)
    | (refine wpList_load_root (by kernel_rfl) _ rfl w2.heap.size X (by with_reducible exact range_row K5.out.2.2.1) XZ.out rfl rfl ?_)
    | (refine wpList_load_root (by kernel_rfl) _ rfl w3.heap.size X (by with_reducible exact range_row K5.out.2.2.2.1) XZ.out rfl rfl ?_)
    | (refine wpList_load_root (by kernel_rfl) _ rfl w5.heap.size cs (by with_reducible exact range_row K5.out.2.2.2.2) CZ.out rfl rfl ?_))
  generalize (w5.alloc (.cells Z 47)).setRow w5.heap.size cs = V at *
  refine AnyC.startB (fun w' => Below V.heap.size V w') (by kernel_rfl) rfl ?_
  intro w6 hb6 hs6
  clear hs6
  have D6 := Lib.hid hb6
  clear hb6
  have C6 : Hid (Below w6.heap.size w6 w6) := Below.refl _ _
  refine AnyC.narrow (C' := fun w' => Below w6.heap.size w6 w') (fun w' h => D6.out.trans (h.mono D6.out.size)) ?_
  apply AnyC.take (i := 0) rfl (by kernel_rfl) rfl
  · intro w' hC K hK
    go_wp2
    exact hK
  · rfl
  apply AnyC.take (i := 1) rfl (by kernel_rfl) rfl
  · intro w' hC K hK
    go_wp2
    exact hK
  · rfl
  apply AnyC.take (i := 2) rfl (by kernel_rfl) rfl
  · intro w' hC K hK
    go_wp2
    exact hK
  · rfl
  apply AnyC.take (i := 3) rfl (by kernel_rfl) rfl
  · intro w' hC K hK
    refine wpList_load_root (by kernel_rfl) _ rfl w2.heap.size X (range_row (heap_below (heap_below K5.out.2.2.1 D6.out) hC)) XZ.out rfl rfl ?_
    go_wp2
    exact hK
  · rfl
  apply AnyC.take (i := 6) rfl (by kernel_rfl) rfl
  · intro w' hC K hK
    go_wp2
    exact hK
  · rfl
  apply AnyC.take (i := 7) rfl (by kernel_rfl) rfl
  · intro w' hC K hK
    have hs := run_str8 ((HR.out.keep fun _ hp => ((K5.out.2.1.trans (D6.out.mono K5.out.2.1.size)).trans (hC.mono (K5.out.2.1.trans (D6.out.mono K5.out.2.1.size)).size)).cell hp).more ((K5.out.2.1.trans (D6.out.mono K5.out.2.1.size)).trans (hC.mono (K5.out.2.1.trans (D6.out.mono K5.out.2.1.size)).size)).size) c
    go_wp2
    exact hK
  · rfl
  apply AnyC.solo (i := 4) rfl (by kernel_rfl) C6.out
  go_wp2_with (go_at_call 29; go_must (rw [HX.out]; refine (EncodeRoot_any r' Xok.out _).mono ?_; rintro e w7 ⟨v, rfl, ho, hb⟩; rw [(root_enc_dec HD.out).1] at ho; obtain ⟨A7, c7, rfl, hc_, hr_⟩ := own8_form ho; have R7 := Lib.hid hr_; have D7 := Lib.hid (D6.out.trans (hb.mono D6.out.size)); have C7 : Hid (Below w7.heap.size w7 w7) := Below.refl _ _; have N7 : Hid (∀ w', Below w7.heap.size w7 w' → Below w6.heap.size w6 w') := (fun w' h => hb.trans (h.mono hb.size)); rw [← HX.out]; clear ho hb hc_ hr_))
  refine ⟨rfl, ?_⟩
  refine AnyC.narrow (C' := fun w' => Below w7.heap.size w7 w') N7.out ?_
  apply AnyC.take (i := 5) rfl (by kernel_rfl) rfl
  · intro w' hC K hK
    have hs := run_str8 ((R7.out.keep fun _ hp => hC.cell hp).more hC.size) c7
    go_wp2
    exact hK
  · rfl
  apply AnyC.take (i := 8) rfl (by kernel_rfl) rfl
  · intro w' hC K hK
    go_wp2
    exact hK
  · rfl
  apply AnyC.take (i := 9) rfl (by kernel_rfl) rfl
  · intro w' hC K hK
    go_wp2
    exact hK
  · rfl
  refine AnyC.done C7.out (by kernel_rfl) ?_
  go_wp2
  refine AnyC.startB (fun w' => Below w7.heap.size w7 w') (by kernel_rfl) rfl ?_
  intro w8 hb8 hs8
  clear hs8
  have D8 := Lib.hid (D7.out.trans (hb8.mono D7.out.size))
  have N8 : Hid (∀ w', Below w8.heap.size w8 w' → Below w7.heap.size w7 w') := (fun w' h => hb8.trans (h.mono hb8.size))
  clear hb8
  have C8 : Hid (Below w8.heap.size w8 w8) := Below.refl _ _
  refine AnyC.narrow (C' := fun w' => Below w8.heap.size w8 w') N8.out ?_
  apply AnyC.take (i := 0) rfl (by kernel_rfl) rfl
  · intro w' hC K hK
    refine wpList_load_root (by kernel_rfl) _ rfl w.heap.size cs (range_row (heap_below (heap_below K5.out.1 D8.out) hC)) CZ.out rfl rfl ?_
    go_wp2
    exact hK
  · rfl
  apply AnyC.take (i := 3) rfl (by kernel_rfl) rfl
  · intro w' hC K hK
    refine wpList_load_root (by kernel_rfl) _ rfl w.heap.size cs (range_row (heap_below (heap_below K5.out.1 D8.out) hC)) CZ.out rfl rfl ?_
    go_wp2
    exact hK
  · rfl
  apply AnyC.solo (i := 1) rfl (by kernel_rfl) C8.out
  go_wp2_with (go_at_call 30; go_must (rw [HC.out]; refine (RootBytes_any r Hr.out _).mono ?_; rintro e w9 ⟨v, rfl, ho, hb⟩; obtain ⟨A9, c9, rfl, hc_, hr_⟩ := own8_form ho; have R9 := Lib.hid hr_; have D9 := Lib.hid (D8.out.trans (hb.mono D8.out.size)); have C9 : Hid (Below w9.heap.size w9 w9) := Below.refl _ _; have N9 : Hid (∀ w', Below w9.heap.size w9 w' → Below w8.heap.size w8 w') := (fun w' h => hb.trans (h.mono hb.size)); rw [← HC.out]; clear ho hb hc_ hr_))
  refine ⟨rfl, ?_⟩
  refine AnyC.narrow (C' := fun w' => Below w9.heap.size w9 w') N9.out ?_
  apply AnyC.take (i := 2) rfl (by kernel_rfl) rfl
  · intro w' hC K hK
    have hs := run_str8 ((R9.out.keep fun _ hp => hC.cell hp).more hC.size) c9
    go_wp2
    exact hK
  · rfl
  apply AnyC.solo (i := 4) rfl (by kernel_rfl) C9.out
  go_wp2_with (go_at_call 31; go_must (rw [HC.out]; refine (rRootBytes_any r Hr.out _).mono ?_; rintro e w10 ⟨v, rfl, ho, hb⟩; obtain ⟨A10, c10, rfl, hc_, hr_⟩ := own8_form ho; have R10 := Lib.hid hr_; have D10 := Lib.hid (D9.out.trans (hb.mono D9.out.size)); have C10 : Hid (Below w10.heap.size w10 w10) := Below.refl _ _; have N10 : Hid (∀ w', Below w10.heap.size w10 w' → Below w9.heap.size w9 w') := (fun w' h => hb.trans (h.mono hb.size)); rw [← HC.out]; clear ho hb hc_ hr_))
  refine ⟨rfl, ?_⟩
  refine AnyC.narrow (C' := fun w' => Below w10.heap.size w10 w') N10.out ?_
  apply AnyC.take (i := 5) rfl (by kernel_rfl) rfl
  · intro w' hC K hK
    have hs := run_str8 ((R10.out.keep fun _ hp => hC.cell hp).more hC.size) c10
    go_wp2
    exact hK
  · rfl
  apply AnyC.take (i := 6) rfl (by kernel_rfl) rfl
  · intro w' hC K hK
    go_wp2
    exact hK
  · rfl
  apply AnyC.take (i := 7) rfl (by kernel_rfl) rfl
  · intro w' hC K hK
    go_wp2
    exact hK
  · rfl
  apply AnyC.take (i := 8) rfl (by kernel_rfl) rfl
  · intro w' hC K hK
    refine wpList_load_root (by kernel_rfl) _ rfl w.heap.size cs (range_row (heap_below (heap_below K5.out.1 D10.out) hC)) CZ.out rfl rfl ?_
    go_wp2
    exact hK
  · rfl
  apply AnyC.take (i := 11) rfl (by kernel_rfl) rfl
  · intro w' hC K hK
    refine wpList_load_root (by kernel_rfl) _ rfl w.heap.size cs (range_row (heap_below (heap_below K5.out.1 D10.out) hC)) CZ.out rfl rfl ?_
    go_wp2
    exact hK
  · rfl
  apply AnyC.solo (i := 9) rfl (by kernel_rfl) C10.out
  go_wp2_with (go_at_call 29; go_must (rw [HC.out]; refine (EncodeRoot_any r Hr.out _).mono ?_; rintro e w11 ⟨v, rfl, ho, hb⟩; obtain ⟨A11, c11, rfl, hc_, hr_⟩ := own8_form ho; have R11 := Lib.hid hr_; have D11 := Lib.hid (D10.out.trans (hb.mono D10.out.size)); have C11 : Hid (Below w11.heap.size w11 w11) := Below.refl _ _; have N11 : Hid (∀ w', Below w11.heap.size w11 w' → Below w10.heap.size w10 w') := (fun w' h => hb.trans (h.mono hb.size)); rw [← HC.out]; clear ho hb hc_ hr_))
  refine ⟨rfl, ?_⟩
  refine AnyC.narrow (C' := fun w' => Below w11.heap.size w11 w') N11.out ?_
  apply AnyC.take (i := 10) rfl (by kernel_rfl) rfl
  · intro w' hC K hK
    have hs := run_str8 ((R11.out.keep fun _ hp => hC.cell hp).more hC.size) c11
    go_wp2
    exact hK
  · rfl
  apply AnyC.solo (i := 12) rfl (by kernel_rfl) C11.out
  go_wp2_with (go_at_call 32; go_must (rw [HC.out]; refine (rEncodeRoot_any r Hr.out _).mono ?_; rintro e w12 ⟨v, rfl, ho, hb⟩; obtain ⟨A12, c12, rfl, hc_, hr_⟩ := own8_form ho; have R12 := Lib.hid hr_; have D12 := Lib.hid (D11.out.trans (hb.mono D11.out.size)); have C12 : Hid (Below w12.heap.size w12 w12) := Below.refl _ _; have N12 : Hid (∀ w', Below w12.heap.size w12 w' → Below w11.heap.size w11 w') := (fun w' h => hb.trans (h.mono hb.size)); rw [← HC.out]; clear ho hb hc_ hr_))
  refine ⟨rfl, ?_⟩
  refine AnyC.narrow (C' := fun w' => Below w12.heap.size w12 w') N12.out ?_
  apply AnyC.take (i := 13) rfl (by kernel_rfl) rfl
  · intro w' hC K hK
    have hs := run_str8 ((R12.out.keep fun _ hp => hC.cell hp).more hC.size) c12
    go_wp2
    exact hK
  · rfl
  apply AnyC.take (i := 14) rfl (by kernel_rfl) rfl
  · intro w' hC K hK
    go_wp2
    exact hK
  · rfl
  apply AnyC.take (i := 15) rfl (by kernel_rfl) rfl
  · intro w' hC K hK
    go_wp2
    exact hK
  · rfl
  apply AnyC.take (i := 16) rfl (by kernel_rfl) rfl
  · intro w' hC K hK
    go_wp2
    exact hK
  · rfl
  refine AnyC.done C12.out (by kernel_rfl) ?_
  go_wp2
  refine bodyPost_ret (v := .bool true) (by simp [results, Try.results9]) rfl ⟨rfl, K5.out.2.1.trans (D12.out.mono K5.out.2.1.size)⟩
set_option maxRecDepth 100000 in
set_option maxHeartbeats 4000000 in
theorem WireRoots_no (r : RootV) (hr : r.ok) (v1 : Value) (l : List UInt8) (w : World) (a1 : ArgB w v1 l) (hd : rootD l = none) : Calls Try.prog 9 #[.agg r.cs, v1] w fun e w' => e = .returned (.bool true) ∧ Below w.heap.size w w' := by
  obtain ⟨A, c, rfl, hc, hrd, hm⟩ := a1
  rw [reach_eq] at hm
  have hm' : l.length ≤ 140737488355328 := by omega
  obtain ⟨Z, hZ⟩ : ∃ Z : Array Value, Z = rootZ.cs := ⟨_, rfl⟩
  have hz := hz47
  rw [← hZ] at hz
  have HZz : Hid (Z.size = 163) := by show _ = _; rw [hZ]; decide
  have HD := Lib.hid hd
  have Hr := Lib.hid hr
  obtain ⟨X, hX⟩ : ∃ X : Array Value, X = rootZ.cs := ⟨_, rfl⟩
  have HX := Lib.hid hX
  have Xok : Hid (rootZ.ok) := rootZ_ok
  have XZ : Hid (X.size = 163) := by show _ = _; rw [hX]; exact root_size Xok.out
  have hPX : rootR l = rootZ ∧ rootE l = 2 := root_no hd
  have HPX := Lib.hid hPX
  obtain ⟨cs, hcs⟩ : ∃ cs : Array Value, cs = r.cs := ⟨_, rfl⟩
  rw [← hcs]
  have HC := Lib.hid hcs
  have CZ : Hid (cs.size = 163) := by show _ = _; rw [hcs]; exact root_size hr
  have heqX : ∀ w, (Op.equalIn 10000 47 (.agg X) (.agg X)).run Try.prog w = .ok true w := fun w => by rw [hX]; exact eq_root Xok.out w
  have heqC : ∀ w, (Op.equalIn 10000 47 (.agg cs) (.agg cs)).run Try.prog w = .ok true w := fun w => by rw [hcs]; exact eq_root Hr.out w
  have K0 : Hid ((w.alloc (.cells cs 47)).heap[w.heap.size]? = some (.cells cs 47 (0, 0)) ∧ Below w.heap.size w (w.alloc (.cells cs 47))) := ⟨heap_alloc_new w _, (Below.refl _ _).alloc (Nat.le_refl _) _⟩
  have HR := Lib.hid hrd
  have Hc := Lib.hid hc
  have Hm := Lib.hid hm'
  clear hm hm' hd hr hX hPX hcs hrd hc hZ
  have TD0 : Hid True := trivial
  go_enter Try.func9, Try.ntmps9
  go_wp2_with (first
    | (go_at_call 12; go_must (refine (awake_any _).mono ?_; rintro e w1 ⟨rfl, hb⟩; have K1 := Lib.hid (And.intro (heap_below K0.out.1 hb) (K0.out.2.trans (hb.mono K0.out.2.size))); clear hb))
    | (go_at_call 27; have hx_ := TD1; go_must (refine (DecodeRoot_any Ae ce (signB r) w4 RE.out.2 RE.out.1 (by have h_ := LE.out; omega)).mono ?_; rintro e w5 ⟨rfl, hb⟩; rw [(root_yes (root_dec_enc Hr.out)).1, (root_yes (root_dec_enc Hr.out)).2, ← HC.out]; have RN := Lib.hid (row_new w5 Z cs 47); have AN5 := Lib.hid (heap_alloc_new w5 (.cells Z 47)); have hb2 := hb.trans (RN.out.1.mono hb.size); have K5 := Lib.hid (And.intro (heap_below K4.out.1 hb2) (And.intro (K4.out.2.1.trans (hb2.mono K4.out.2.1.size)) (And.intro (heap_below K4.out.2.2.1 hb2) (And.intro (heap_below K4.out.2.2.2 hb2) RN.out.2.1)))); clear hb hb2 TD1 hx_))
    | (go_at_call 27; have hx_ := TD0; go_must (refine (DecodeRoot_any A c l w1 ((HR.out.keep fun _ hp => K1.out.2.cell hp).more K1.out.2.size) Hc.out Hm.out).mono ?_; rintro e w2 ⟨rfl, hb⟩; rw [HPX.out.1, HPX.out.2, ← HX.out]; have RN := Lib.hid (row_new w2 Z X 47); have AN2 := Lib.hid (heap_alloc_new w2 (.cells Z 47)); have hb2 := hb.trans (RN.out.1.mono hb.size); have K2 := Lib.hid (And.intro (heap_below K1.out.1 hb2) (And.intro (K1.out.2.trans (hb2.mono K1.out.2.size)) RN.out.2.1)); have TD1 := hx_; clear hb hb2 TD0 hx_ RN))
    | (go_at_call 28; go_must (refine (rDecodeRoot_any A c l _ ((HR.out.keep fun _ hp => K2.out.2.1.cell hp).more K2.out.2.1.size) Hc.out Hm.out).mono ?_; rintro e w3 ⟨rfl, hb⟩; rw [HPX.out.1, HPX.out.2, ← HX.out]; have RN := Lib.hid (row_new w3 Z X 47); have AN3 := Lib.hid (heap_alloc_new w3 (.cells Z 47)); have hb2 := hb.trans (RN.out.1.mono hb.size); have K3 := Lib.hid (And.intro (heap_below K2.out.1 hb2) (And.intro (K2.out.2.1.trans (hb2.mono K2.out.2.1.size)) (And.intro (heap_below K2.out.2.2 hb2) RN.out.2.1))); clear hb hb2 RN))
    | (go_at_call 29; go_must (rw [HC.out]; refine (EncodeRoot_any r Hr.out _).mono ?_; rintro e w4 ⟨v, rfl, ho, hb⟩; obtain ⟨Ae, ce, rfl, hce, hre⟩ := own8_form ho; have RE := Lib.hid (And.intro hce hre); have LE : Hid ((signB r).length ≤ 1048576) := signB_le Hr.out; have K4 := Lib.hid (And.intro (heap_below K3.out.1 hb) (And.intro (K3.out.2.1.trans (hb.mono K3.out.2.1.size)) (And.intro (heap_below K3.out.2.2.1 hb) (heap_below K3.out.2.2.2 hb)))); rw [← HC.out]; clear ho hb hce hre))
    | (refine wpList_store_row rfl _ _ _ rfl w2.heap.size X rfl rfl 47 Z (by with_reducible exact AN2.out) (by rw [XZ.out]; kernel_rfl) (by rw [XZ.out, HZz.out]) (by rw [HX.out]; exact root_one) ?_)
    | (refine wpList_store_row rfl _ _ _ rfl w3.heap.size X rfl rfl 47 Z (by with_reducible exact AN3.out) (by rw [XZ.out]; kernel_rfl) (by rw [XZ.out, HZz.out]) (by rw [HX.out]; exact root_one) ?_)
    | (refine wpList_store_row rfl _ _ _ rfl w5.heap.size cs rfl rfl 47 Z (by with_reducible exact AN5.out) (by rw [CZ.out]; kernel_rfl) (by rw [CZ.out, HZz.out]) (by rw [HC.out]; exact root_one) ?_)
    | (refine wpList_load_root (by kernel_rfl) _ rfl w.heap.size cs (by with_reducible exact range_row K3.out.1) CZ.out rfl rfl ?_)
    | (refine wpList_load_root (by kernel_rfl) _ rfl w.heap.size cs (by with_reducible exact range_row K5.out.1) CZ.out rfl rfl ?_)
    | (refine wpList_load_root (by kernel_rfl) _ rfl w2.heap.size X (by with_reducible exact range_row K5.out.2.2.1) XZ.out rfl rfl ?_)
    | (refine wpList_load_root (by kernel_rfl) _ rfl w3.heap.size X (by with_reducible exact range_row K5.out.2.2.2.1) XZ.out rfl rfl ?_)
    | (refine wpList_load_root (by kernel_rfl) _ rfl w5.heap.size cs (by with_reducible exact range_row K5.out.2.2.2.2) CZ.out rfl rfl ?_))
  generalize (w5.alloc (.cells Z 47)).setRow w5.heap.size cs = V at *
  refine AnyC.startB (fun w' => Below V.heap.size V w') (by kernel_rfl) rfl ?_
  intro w7 hb7 hs7
  clear hs7
  have D7 := Lib.hid hb7
  clear hb7
  apply AnyC.take (i := 0) rfl (by kernel_rfl) rfl
  · intro w' hC K hK
    go_wp2
    exact hK
  · rfl
  apply AnyC.take (i := 1) rfl (by kernel_rfl) rfl
  · intro w' hC K hK
    go_wp2
    exact hK
  · rfl
  apply AnyC.take (i := 2) rfl (by kernel_rfl) rfl
  · intro w' hC K hK
    go_wp2
    exact hK
  · rfl
  apply AnyC.take (i := 3) rfl (by kernel_rfl) rfl
  · intro w' hC K hK
    go_wp2
    exact hK
  · rfl
  apply AnyC.take (i := 4) rfl (by kernel_rfl) rfl
  · intro w' hC K hK
    go_wp2
    exact hK
  · rfl
  apply AnyC.take (i := 5) rfl (by kernel_rfl) rfl
  · intro w' hC K hK
    go_wp2
    exact hK
  · rfl
  apply AnyC.take (i := 6) rfl (by kernel_rfl) rfl
  · intro w' hC K hK
    go_wp2
    exact hK
  · rfl
  apply AnyC.take (i := 7) rfl (by kernel_rfl) rfl
  · intro w' hC K hK
    go_wp2
    exact hK
  · rfl
  apply AnyC.take (i := 8) rfl (by kernel_rfl) rfl
  · intro w' hC K hK
    go_wp2
    exact hK
  · rfl
  apply AnyC.take (i := 9) rfl (by kernel_rfl) rfl
  · intro w' hC K hK
    go_wp2
    exact hK
  · rfl
  refine AnyC.done D7.out (by kernel_rfl) ?_
  go_wp2
  refine AnyC.startB (fun w' => Below w7.heap.size w7 w') (by kernel_rfl) rfl ?_
  intro w8 hb8 hs8
  clear hs8
  have D8 := Lib.hid (D7.out.trans (hb8.mono D7.out.size))
  have N8 : Hid (∀ w', Below w8.heap.size w8 w' → Below w7.heap.size w7 w') := (fun w' h => hb8.trans (h.mono hb8.size))
  clear hb8
  have C8 : Hid (Below w8.heap.size w8 w8) := Below.refl _ _
  refine AnyC.narrow (C' := fun w' => Below w8.heap.size w8 w') N8.out ?_
  apply AnyC.take (i := 0) rfl (by kernel_rfl) rfl
  · intro w' hC K hK
    refine wpList_load_root (by kernel_rfl) _ rfl w.heap.size cs (range_row (heap_below (heap_below K5.out.1 D8.out) hC)) CZ.out rfl rfl ?_
    go_wp2
    exact hK
  · rfl
  apply AnyC.take (i := 3) rfl (by kernel_rfl) rfl
  · intro w' hC K hK
    refine wpList_load_root (by kernel_rfl) _ rfl w.heap.size cs (range_row (heap_below (heap_below K5.out.1 D8.out) hC)) CZ.out rfl rfl ?_
    go_wp2
    exact hK
  · rfl
  apply AnyC.solo (i := 1) rfl (by kernel_rfl) C8.out
  go_wp2_with (go_at_call 30; go_must (rw [HC.out]; refine (RootBytes_any r Hr.out _).mono ?_; rintro e w9 ⟨v, rfl, ho, hb⟩; obtain ⟨A9, c9, rfl, hc_, hr_⟩ := own8_form ho; have R9 := Lib.hid hr_; have D9 := Lib.hid (D8.out.trans (hb.mono D8.out.size)); have C9 : Hid (Below w9.heap.size w9 w9) := Below.refl _ _; have N9 : Hid (∀ w', Below w9.heap.size w9 w' → Below w8.heap.size w8 w') := (fun w' h => hb.trans (h.mono hb.size)); rw [← HC.out]; clear ho hb hc_ hr_))
  refine ⟨rfl, ?_⟩
  refine AnyC.narrow (C' := fun w' => Below w9.heap.size w9 w') N9.out ?_
  apply AnyC.take (i := 2) rfl (by kernel_rfl) rfl
  · intro w' hC K hK
    have hs := run_str8 ((R9.out.keep fun _ hp => hC.cell hp).more hC.size) c9
    go_wp2
    exact hK
  · rfl
  apply AnyC.solo (i := 4) rfl (by kernel_rfl) C9.out
  go_wp2_with (go_at_call 31; go_must (rw [HC.out]; refine (rRootBytes_any r Hr.out _).mono ?_; rintro e w10 ⟨v, rfl, ho, hb⟩; obtain ⟨A10, c10, rfl, hc_, hr_⟩ := own8_form ho; have R10 := Lib.hid hr_; have D10 := Lib.hid (D9.out.trans (hb.mono D9.out.size)); have C10 : Hid (Below w10.heap.size w10 w10) := Below.refl _ _; have N10 : Hid (∀ w', Below w10.heap.size w10 w' → Below w9.heap.size w9 w') := (fun w' h => hb.trans (h.mono hb.size)); rw [← HC.out]; clear ho hb hc_ hr_))
  refine ⟨rfl, ?_⟩
  refine AnyC.narrow (C' := fun w' => Below w10.heap.size w10 w') N10.out ?_
  apply AnyC.take (i := 5) rfl (by kernel_rfl) rfl
  · intro w' hC K hK
    have hs := run_str8 ((R10.out.keep fun _ hp => hC.cell hp).more hC.size) c10
    go_wp2
    exact hK
  · rfl
  apply AnyC.take (i := 6) rfl (by kernel_rfl) rfl
  · intro w' hC K hK
    go_wp2
    exact hK
  · rfl
  apply AnyC.take (i := 7) rfl (by kernel_rfl) rfl
  · intro w' hC K hK
    go_wp2
    exact hK
  · rfl
  apply AnyC.take (i := 8) rfl (by kernel_rfl) rfl
  · intro w' hC K hK
    refine wpList_load_root (by kernel_rfl) _ rfl w.heap.size cs (range_row (heap_below (heap_below K5.out.1 D10.out) hC)) CZ.out rfl rfl ?_
    go_wp2
    exact hK
  · rfl
  apply AnyC.take (i := 11) rfl (by kernel_rfl) rfl
  · intro w' hC K hK
    refine wpList_load_root (by kernel_rfl) _ rfl w.heap.size cs (range_row (heap_below (heap_below K5.out.1 D10.out) hC)) CZ.out rfl rfl ?_
    go_wp2
    exact hK
  · rfl
  apply AnyC.solo (i := 9) rfl (by kernel_rfl) C10.out
  go_wp2_with (go_at_call 29; go_must (rw [HC.out]; refine (EncodeRoot_any r Hr.out _).mono ?_; rintro e w11 ⟨v, rfl, ho, hb⟩; obtain ⟨A11, c11, rfl, hc_, hr_⟩ := own8_form ho; have R11 := Lib.hid hr_; have D11 := Lib.hid (D10.out.trans (hb.mono D10.out.size)); have C11 : Hid (Below w11.heap.size w11 w11) := Below.refl _ _; have N11 : Hid (∀ w', Below w11.heap.size w11 w' → Below w10.heap.size w10 w') := (fun w' h => hb.trans (h.mono hb.size)); rw [← HC.out]; clear ho hb hc_ hr_))
  refine ⟨rfl, ?_⟩
  refine AnyC.narrow (C' := fun w' => Below w11.heap.size w11 w') N11.out ?_
  apply AnyC.take (i := 10) rfl (by kernel_rfl) rfl
  · intro w' hC K hK
    have hs := run_str8 ((R11.out.keep fun _ hp => hC.cell hp).more hC.size) c11
    go_wp2
    exact hK
  · rfl
  apply AnyC.solo (i := 12) rfl (by kernel_rfl) C11.out
  go_wp2_with (go_at_call 32; go_must (rw [HC.out]; refine (rEncodeRoot_any r Hr.out _).mono ?_; rintro e w12 ⟨v, rfl, ho, hb⟩; obtain ⟨A12, c12, rfl, hc_, hr_⟩ := own8_form ho; have R12 := Lib.hid hr_; have D12 := Lib.hid (D11.out.trans (hb.mono D11.out.size)); have C12 : Hid (Below w12.heap.size w12 w12) := Below.refl _ _; have N12 : Hid (∀ w', Below w12.heap.size w12 w' → Below w11.heap.size w11 w') := (fun w' h => hb.trans (h.mono hb.size)); rw [← HC.out]; clear ho hb hc_ hr_))
  refine ⟨rfl, ?_⟩
  refine AnyC.narrow (C' := fun w' => Below w12.heap.size w12 w') N12.out ?_
  apply AnyC.take (i := 13) rfl (by kernel_rfl) rfl
  · intro w' hC K hK
    have hs := run_str8 ((R12.out.keep fun _ hp => hC.cell hp).more hC.size) c12
    go_wp2
    exact hK
  · rfl
  apply AnyC.take (i := 14) rfl (by kernel_rfl) rfl
  · intro w' hC K hK
    go_wp2
    exact hK
  · rfl
  apply AnyC.take (i := 15) rfl (by kernel_rfl) rfl
  · intro w' hC K hK
    go_wp2
    exact hK
  · rfl
  apply AnyC.take (i := 16) rfl (by kernel_rfl) rfl
  · intro w' hC K hK
    go_wp2
    exact hK
  · rfl
  refine AnyC.done C12.out (by kernel_rfl) ?_
  go_wp2
  refine bodyPost_ret (v := .bool true) (by simp [results, Try.results9]) rfl ⟨rfl, K5.out.2.1.trans (D12.out.mono K5.out.2.1.size)⟩
end Go.Proofs.Ytbpgbihcihnieaa
