/- The texts N11a N11b N11c of this work, merged by wip/merge.py. No conditions. -/
import Derived.Test.YtbpgbihcihnieaaQN10
namespace Go.Proofs.Ytbpgbihcihnieaa
open Go.RowKit
def stepZ : Array Value := (rootZ.vs ++ [Value.slice none 0 0, Value.slice none 0 0, Value.slice none 0 0]).toArray
def stepCs (r : RootV) (vN vA vL : Value) : Array Value := (r.vs ++ [vN, vA, vL]).toArray
theorem hz66 : ∀ w, (zeroValue 66).run Try.prog w = .ok (.agg stepZ) w := fun w => by kernel_rfl
def stepO : Option (List (List UInt8)) → Option (RootV × List NodeV × List UInt8 × List UInt8)
  | some [x, n, a, l] => match rootD x with
    | some r => if nodesOK n && decide (a.length % 64 = 0) && decide (l.length % 96 = 0) then some (r, nodesOf n, a, l) else none
    | none => none
  | _ => none
def stepD (b : List UInt8) : Option (RootV × List NodeV × List UInt8 × List UInt8) := stepO (openV b stepW 4)
set_option maxRecDepth 100000 in
theorem built_step0 (ps : List (Nat × Value)) : (Try.prog).built 66 ps = Instr.fill ([(0, 163), (163, 1), (164, 1), (165, 1)].toArray[·]?) stepZ ps := by kernel_rfl
theorem built_step {r : RootV} (hr : r.ok) {An Aa Al : Option Addr} {nn cn na ca nl cl : Nat} : (Try.prog).built 66 [(0, .agg r.cs), (1, .slice An nn cn), (2, .slice Aa na ca), (3, .slice Al nl cl)] = some (stepCs r (.slice An nn cn) (.slice Aa na ca) (.slice Al nl cl)) := by
  have hl := vs_root hr
  have hz := vs_root rootZ_ok
  rw [built_step0]
  refine (fill_seg [] rootZ.vs r.vs [.slice none 0 0, .slice none 0 0, .slice none 0 0] (by simp [stepZ]) rfl (by rw [hl]; rfl) (by rw [hl, hz])).trans ?_
  refine (fill_seg ([] ++ r.vs) [.slice none 0 0] [.slice An nn cn] [.slice none 0 0, .slice none 0 0] (by simp) rfl (by rw [List.nil_append, hl]; rfl) rfl).trans ?_
  refine (fill_seg ([] ++ r.vs ++ [.slice An nn cn]) [.slice none 0 0] [.slice Aa na ca] [.slice none 0 0] (by simp) rfl (by simp [hl]) rfl).trans ?_
  refine (fill_seg ([] ++ r.vs ++ [.slice An nn cn, .slice Aa na ca]) [.slice none 0 0] [.slice Al nl cl] [] (by simp) rfl (by simp [hl]) rfl).trans ?_
  rw [Instr.fill]
  congr 1
  simp [stepCs]
theorem stepCs_size {r : RootV} (hr : r.ok) (vN vA vL : Value) : (stepCs r vN vA vL).size = 166 := by simp [stepCs, vs_root hr]
theorem stepZ_size : stepZ.size = 166 := stepCs_size rootZ_ok _ _ _
theorem step_one {r : RootV} {An Aa Al : Option Addr} {nn cn na ca nl cl : Nat} : ((stepCs r (.slice An nn cn) (.slice Aa na ca) (.slice Al nl cl)).all fun x => x.oneCell') = true := by
  refine Array.all_eq_true'.2 fun x hx => ?_
  simp only [stepCs, List.mem_toArray, List.mem_append, List.mem_cons, List.not_mem_nil, or_false] at hx
  rcases hx with h | rfl | rfl | rfl
  · exact Array.all_eq_true'.1 (root_one (r := r)) x (by simpa [RootV.cs] using h)
  all_goals rfl
theorem stepZ_one : (stepZ.all fun x => x.oneCell') = true := step_one (r := rootZ)
theorem ret66r {wr : World} {b : Nat} {cs : Array Value} {t : TypeId} {f : Nat × Nat} (h : wr.heap[b]? = some (.cells cs t f)) (hs : cs.size = 166) :
    (loadVar 66 ⟨b, 0, none⟩).run Try.prog wr = .ok (.agg cs) wr := by
  have h1 := run_loadVar_mid (P := Try.prog) wr b 0 66 cs.toList _ (range_row h) Try.underlying66 rfl (by rw [Array.length_toList, hs]; kernel_rfl)
  rw [Array.toArray_toList] at h1
  exact h1
theorem openV_le2 {l word : List UInt8} {n : Nat} {ls : List (List UInt8)} (h : openV l word n = some ls) : ∀ x ∈ ls, x.length ≤ 1048576 := fun x hx => by
  obtain ⟨h1, h2⟩ := openV_list h
  rcases dec_cases l with ⟨_, ms, hm, hl, _, hle⟩ | ⟨h3, _⟩
  · rw [h1] at hm
    have h4 := member_le (ls := ms) (x := x) (by rw [← hm]; exact List.mem_cons_of_mem _ hx)
    have h5 : (members ms).length ≤ l.length := by rw [hl, List.length_append]; omega
    omega
  · rcases h3 with h3 | h3 <;> (rw [h2] at h3; cases h3)
theorem four_of {ls : List (List UInt8)} (h : ls.length = 4) : ∃ a b c d, ls = [a, b, c, d] := by
  match ls, h with
  | [a, b, c, d], _ => exact ⟨a, b, c, d, rfl⟩
/-- What DecodeStep leaves. -/
def SDPost (b : List UInt8) (w : World) (e : Ending) (w' : World) : Prop :=
  (stepD b = none ∧ e = .returned (.tuple #[.agg stepZ, .int .i64 2]) ∧ Below w.heap.size w w') ∨
  ∃ r ns ad lk An Aa Al nn cn na ca nl cl, stepD b = some (r, ns, ad, lk) ∧ e = .returned (.tuple #[.agg (stepCs r (.slice An nn cn) (.slice Aa na ca) (.slice Al nl cl)), .int .i64 0]) ∧
    w'.ownsRow w.heap.size 118 65 (.slice An nn cn) ns.length (nodesV ns) ∧ w'.ownsRow w.heap.size 108 64 (.slice Aa na ca) na (bvs ad) ∧ w'.ownsRow w.heap.size 121 96 (.slice Al nl cl) nl (bvs lk) ∧ Below w.heap.size w w'
theorem two_segs (b : List UInt8) (k : Nat) : b.take ((k + 1) * 64) = b.take (k * 64) ++ (seg b (2 * k * 32) ++ seg b ((2 * k + 1) * 32)) := by
  have h1 := seg_next' b (p := 2 * k * 32) (q := (2 * k + 1) * 32) (by omega)
  have h2 := seg_next' b (p := (2 * k + 1) * 32) (q := (k + 1) * 64) (by omega)
  rw [← h2, ← h1, show k * 64 = 2 * k * 32 from by omega]
  simp only [List.append_assoc]
end Go.Proofs.Ytbpgbihcihnieaa

namespace Go.Proofs.Ytbpgbihcihnieaa
open Go.RowKit
set_option maxRecDepth 100000 in
set_option maxHeartbeats 4000000 in
theorem rDS_a (A : Option Addr) (c : Nat) (b : List UInt8) (w : World) (hr : Reads w w.heap.size 1 A b.length (bvs b)) (hc : b.length ≤ c) (hm : b.length ≤ 140737488355328) (hD : stepD b = none) (h1 : openV b stepW 4 = none) : Calls Try.prog 41 #[.slice A b.length c] w (SDPost b w) := by
  obtain ⟨Z, hZ⟩ : ∃ Z : Array Value, Z = stepZ := ⟨_, rfl⟩
  have hz := hz66
  rw [← hZ] at hz
  have HZ := Lib.hid hZ
  have HZz : Hid (Z.size = 166) := by show _ = _; rw [hZ]; exact stepZ_size
  obtain ⟨Y, hY⟩ : ∃ Y : Array Value, Y = rootZ.cs := ⟨_, rfl⟩
  have hy := hz47
  rw [← hY] at hy
  have HYz : Hid (Y.size = 163) := by show _ = _; rw [hY]; decide
  have F : Hid (Below w.heap.size w (w.alloc (.cells Z 66)) ∧ (w.alloc (.cells Z 66)).heap[w.heap.size]? = some (.cells Z 66 (0, 0))) := ⟨(Below.refl _ _).alloc (Nat.le_refl _) _, heap_alloc_new _ _⟩
  have R0 : Hid (Reads (w.alloc (.cells Z 66)) (w.alloc (.cells Z 66)).heap.size 1 A b.length (bvs b)) := (hr.keep fun _ hp => F.out.1.cell hp).more F.out.1.size
  have Hc := Lib.hid hc
  have Hm := Lib.hid hm
  clear hr hc hm hZ hY
  have HD := Lib.hid hD
  have H1 := Lib.hid h1
  clear hD h1
  go_enter Try.func41, Try.ntmps41
  go_wp2_with (first
    | (go_at_call 54; go_must (refine (rparts_any A c 4 b stepW 5 rfl (by decide) _ R0.out Hc.out Hm.out).mono ?_; rintro e w1 ⟨v, rfl, ho, hb⟩; rw [H1.out]; obtain ⟨A1, c1, rfl, hc1, hl1⟩ := ho.lists; have B1 := Lib.hid (F.out.1.trans (hb.mono F.out.1.size)); have ZK := Lib.hid (heap_below F.out.2 hb); rw [show (none : Option (List (List UInt8))).isSome = false from rfl]; clear ho hb hc1 hl1))
    | (refine wpList_store_row rfl _ _ _ rfl w.heap.size Z rfl rfl 66 Z (by with_reducible exact ZK.out) (by rw [HZz.out]; kernel_rfl) (by rfl) (by rw [HZ.out]; exact stepZ_one) ?_))
  have hld := ret66r (heap_setRow (cs := Z) ZK.out) HZz.out
  refine bodyPost_ret (v := .tuple #[.agg Z, .int .i64 2]) (by simp [results, Try.results41, asAddr, hld]) rfl (.inl ⟨HD.out, by rw [← HZ.out], ?_⟩)
  exact B1.out.trans ((Frm.setRow _ _ _).1.below B1.out.size (by simp))
set_option maxRecDepth 100000 in
set_option maxHeartbeats 4000000 in
theorem rDS_e0 (A : Option Addr) (c : Nat) (b : List UInt8) (w : World) (hr : Reads w w.heap.size 1 A b.length (bvs b)) (hc : b.length ≤ c) (hm : b.length ≤ 140737488355328) (x n a l : List UInt8) (h1 : openV b stepW 4 = some [x, n, a, l]) (hD : stepD b = none) (hx : rootD x = none) : Calls Try.prog 41 #[.slice A b.length c] w (SDPost b w) := by
  obtain ⟨Z, hZ⟩ : ∃ Z : Array Value, Z = stepZ := ⟨_, rfl⟩
  have hz := hz66
  rw [← hZ] at hz
  have HZ := Lib.hid hZ
  have HZz : Hid (Z.size = 166) := by show _ = _; rw [hZ]; exact stepZ_size
  obtain ⟨Y, hY⟩ : ∃ Y : Array Value, Y = rootZ.cs := ⟨_, rfl⟩
  have hy := hz47
  rw [← hY] at hy
  have HYz : Hid (Y.size = 163) := by show _ = _; rw [hY]; decide
  have F : Hid (Below w.heap.size w (w.alloc (.cells Z 66)) ∧ (w.alloc (.cells Z 66)).heap[w.heap.size]? = some (.cells Z 66 (0, 0))) := ⟨(Below.refl _ _).alloc (Nat.le_refl _) _, heap_alloc_new _ _⟩
  have R0 : Hid (Reads (w.alloc (.cells Z 66)) (w.alloc (.cells Z 66)).heap.size 1 A b.length (bvs b)) := (hr.keep fun _ hp => F.out.1.cell hp).more F.out.1.size
  have Hc := Lib.hid hc
  have Hm := Lib.hid hm
  clear hr hc hm hZ hY
  have H1 := Lib.hid h1
  have XL := Lib.hid (openV_le2 h1 x (by simp))
  have NL := Lib.hid (openV_le2 h1 n (by simp))
  have AL := Lib.hid (openV_le2 h1 a (by simp))
  have LL := Lib.hid (openV_le2 h1 l (by simp))
  have HD := Lib.hid hD
  have HX := Lib.hid (root_no hx)
  have RXok : Hid (rootZ.ok) := rootZ_ok
  obtain ⟨X, hX⟩ : ∃ X : Array Value, X = rootZ.cs := ⟨_, rfl⟩
  have HXX := Lib.hid hX
  have XZ : Hid (X.size = 163) := by show _ = _; rw [hX]; exact root_size RXok.out
  clear h1 hx hX hD
  go_enter Try.func41, Try.ntmps41
  go_wp2_with (first
    | (go_at_call 54; go_must (refine (rparts_any A c 4 b stepW 5 rfl (by decide) _ R0.out Hc.out Hm.out).mono ?_; rintro e w1 ⟨v, rfl, ho, hb⟩; rw [H1.out]; rw [(openV_list H1.out).1] at ho; obtain ⟨A1, c1, rfl, hc1, hl1⟩ := ho.lists; have B1 := Lib.hid (F.out.1.trans (hb.mono F.out.1.size)); have ZK := Lib.hid (heap_below F.out.2 hb); rw [show (some [x, n, a, l]).isSome = true from rfl, show ([stepW, x, n, a, l] : List (List UInt8)).length = 5 from rfl]; obtain ⟨b1, o1, rfl, hb1, hit⟩ := lists_at hl1 (by simp); obtain ⟨A_1, c_1, hc_1, k_1⟩ : ItmAt w1 b1 (o1 + 1) x := hit 1 (by simp); have K1 := Lib.hid k_1; have C1 := Lib.hid hc_1; obtain ⟨A_2, c_2, hc_2, k_2⟩ : ItmAt w1 b1 (o1 + 2) n := hit 2 (by simp); have K2 := Lib.hid k_2; have C2 := Lib.hid hc_2; obtain ⟨A_3, c_3, hc_3, k_3⟩ : ItmAt w1 b1 (o1 + 3) a := hit 3 (by simp); have K3 := Lib.hid k_3; have C3 := Lib.hid hc_3; obtain ⟨A_4, c_4, hc_4, k_4⟩ : ItmAt w1 b1 (o1 + 4) l := hit 4 (by simp); have K4 := Lib.hid k_4; have C4 := Lib.hid hc_4; have ce1 := (K1.out w1 (Below.refl _ _)).1; clear ho hb hc1 hl1 hit hb1 k_1 hc_1 k_2 hc_2 k_3 hc_3 k_4 hc_4))
    | (go_at_call 28; go_must (refine (rDecodeRoot_any A_1 c_1 x w1 (K1.out w1 (Below.refl _ _)).2 C1.out (by have h_ := XL.out; omega)).mono ?_; rintro e w2 ⟨rfl, hb⟩; rw [HX.out.1, HX.out.2, ← HXX.out]; have RN := Lib.hid (row_new w2 Y X 47); have AN := Lib.hid (heap_alloc_new w2 (.cells Y 47)); have D2 : Hid (Below w1.heap.size w1 ((w2.alloc (.cells Y 47)).setRow w2.heap.size X)) := hb.trans (RN.out.1.mono hb.size); have P2 := Lib.hid RN.out.2.1; have ce2 := (K2.out _ D2.out).1; clear hb RN))
    | (go_at_call 66; go_must (refine (rreadNodes_any A_2 c_2 n _ (K2.out _ D2.out).2 C2.out (by have h_ := NL.out; omega)).mono ?_; rintro e w3 ⟨v, rfl, ho, hb⟩; obtain ⟨g1, hg⟩ : ∃ g1 : Bool, g1 = nodesOK n := ⟨_, rfl⟩; rw [← hg]; clear hg; obtain ⟨An, cn, rfl, hcn, hrn⟩ := ownR_form ho; have ON3 := Lib.hid ho; have D3 := Lib.hid (D2.out.trans (hb.mono D2.out.size)); have P3 := Lib.hid (heap_below P2.out hb); have S3 : Hid (w1.heap.size ≤ w3.heap.size) := (D2.out.trans (hb.mono D2.out.size)).size; have ce3 := (K3.out _ D3.out).1; have ONB := Lib.hid (ownR_base ho D2.out.size); clear ho hb hcn hrn))
    | (go_at_call 65; go_must (refine (rHash2_any A_3 c_3 a w3 (K3.out _ D3.out).2 C3.out (by have h_ := AL.out; omega)).mono ?_; rintro e w4 ⟨v, nh, rfl, ho, hb⟩; obtain ⟨g2, hg⟩ : ∃ g2 : Bool, g2 = decide (a.length % 64 = 0) := ⟨_, rfl⟩; rw [← hg]; clear hg; obtain ⟨Ah, ch, rfl, hch, hrh⟩ := ownR_form ho; have OH4 := Lib.hid ho; have D4 := Lib.hid (D3.out.trans (hb.mono D3.out.size)); have P4 := Lib.hid (heap_below P3.out hb); have ON4 := Lib.hid (ownR_below ONB.out hb); have ce4 := (K4.out _ D4.out).1; clear ho hb hch hrh))
    | (go_at_call 74; go_must (refine (rReadLinks_any A_4 c_4 l w4 (K4.out _ D4.out).2 C4.out (by have h_ := LL.out; omega)).mono ?_; rintro e w5 ⟨v, nl, rfl, ho, hb⟩; obtain ⟨g3, hg⟩ : ∃ g3 : Bool, g3 = decide (l.length % 96 = 0) := ⟨_, rfl⟩; rw [← hg]; clear hg; obtain ⟨Al, cl, rfl, hcl, hrl⟩ := ownR_form ho; have OL5 := Lib.hid ho; have D5 := Lib.hid (D4.out.trans (hb.mono D4.out.size)); have P5 := Lib.hid (heap_below P4.out hb); have ON5 := Lib.hid (ownR_below ON4.out hb); have OH5 := Lib.hid (ownR_below OH4.out hb); have OLB := Lib.hid (ownR_base ho D4.out.size); have B5 := Lib.hid (B1.out.trans ((D4.out.trans (hb.mono D4.out.size)).mono B1.out.size)); have ZK5 := Lib.hid (heap_below (heap_below ZK.out D4.out) hb); clear ho hb hcl hrl))
    | (refine wpList_store_row rfl _ _ _ rfl w2.heap.size X rfl rfl 47 Y (by with_reducible exact AN.out) (by rw [XZ.out]; kernel_rfl) (by rw [XZ.out, HYz.out]) (by rw [HXX.out]; exact root_one) ?_)
    | (refine wpList_store_row rfl _ _ _ rfl w.heap.size Z rfl rfl 66 Z (by with_reducible exact ZK5.out) (by rw [HZz.out]; kernel_rfl) (by rfl) (by rw [HZ.out]; exact stepZ_one) ?_))
  have hld := ret66r (heap_setRow (cs := Z) ZK5.out) HZz.out
  refine bodyPost_ret (v := .tuple #[.agg Z, .int .i64 2]) (by simp [results, Try.results41, asAddr, hld]) rfl (.inl ⟨HD.out, by rw [← HZ.out], ?_⟩)
  exact B5.out.trans ((Frm.setRow _ _ _).1.below B5.out.size (by simp))
set_option maxRecDepth 100000 in
set_option maxHeartbeats 4000000 in
theorem rDS_e1 (A : Option Addr) (c : Nat) (b : List UInt8) (w : World) (hr : Reads w w.heap.size 1 A b.length (bvs b)) (hc : b.length ≤ c) (hm : b.length ≤ 140737488355328) (x n a l : List UInt8) (h1 : openV b stepW 4 = some [x, n, a, l]) (hD : stepD b = none) (r : RootV) (hx : rootD x = some r) (hn : nodesOK n = false) : Calls Try.prog 41 #[.slice A b.length c] w (SDPost b w) := by
  obtain ⟨Z, hZ⟩ : ∃ Z : Array Value, Z = stepZ := ⟨_, rfl⟩
  have hz := hz66
  rw [← hZ] at hz
  have HZ := Lib.hid hZ
  have HZz : Hid (Z.size = 166) := by show _ = _; rw [hZ]; exact stepZ_size
  obtain ⟨Y, hY⟩ : ∃ Y : Array Value, Y = rootZ.cs := ⟨_, rfl⟩
  have hy := hz47
  rw [← hY] at hy
  have HYz : Hid (Y.size = 163) := by show _ = _; rw [hY]; decide
  have F : Hid (Below w.heap.size w (w.alloc (.cells Z 66)) ∧ (w.alloc (.cells Z 66)).heap[w.heap.size]? = some (.cells Z 66 (0, 0))) := ⟨(Below.refl _ _).alloc (Nat.le_refl _) _, heap_alloc_new _ _⟩
  have R0 : Hid (Reads (w.alloc (.cells Z 66)) (w.alloc (.cells Z 66)).heap.size 1 A b.length (bvs b)) := (hr.keep fun _ hp => F.out.1.cell hp).more F.out.1.size
  have Hc := Lib.hid hc
  have Hm := Lib.hid hm
  clear hr hc hm hZ hY
  have H1 := Lib.hid h1
  have XL := Lib.hid (openV_le2 h1 x (by simp))
  have NL := Lib.hid (openV_le2 h1 n (by simp))
  have AL := Lib.hid (openV_le2 h1 a (by simp))
  have LL := Lib.hid (openV_le2 h1 l (by simp))
  have HD := Lib.hid hD
  have HX := Lib.hid (root_yes hx)
  have RXok : Hid (r.ok) := (root_enc_dec hx).2
  obtain ⟨X, hX⟩ : ∃ X : Array Value, X = r.cs := ⟨_, rfl⟩
  have HXX := Lib.hid hX
  have XZ : Hid (X.size = 163) := by show _ = _; rw [hX]; exact root_size RXok.out
  have HN := Lib.hid hn
  clear h1 hx hX hD hn
  go_enter Try.func41, Try.ntmps41
  go_wp2_with (first
    | (go_at_call 54; go_must (refine (rparts_any A c 4 b stepW 5 rfl (by decide) _ R0.out Hc.out Hm.out).mono ?_; rintro e w1 ⟨v, rfl, ho, hb⟩; rw [H1.out]; rw [(openV_list H1.out).1] at ho; obtain ⟨A1, c1, rfl, hc1, hl1⟩ := ho.lists; have B1 := Lib.hid (F.out.1.trans (hb.mono F.out.1.size)); have ZK := Lib.hid (heap_below F.out.2 hb); rw [show (some [x, n, a, l]).isSome = true from rfl, show ([stepW, x, n, a, l] : List (List UInt8)).length = 5 from rfl]; obtain ⟨b1, o1, rfl, hb1, hit⟩ := lists_at hl1 (by simp); obtain ⟨A_1, c_1, hc_1, k_1⟩ : ItmAt w1 b1 (o1 + 1) x := hit 1 (by simp); have K1 := Lib.hid k_1; have C1 := Lib.hid hc_1; obtain ⟨A_2, c_2, hc_2, k_2⟩ : ItmAt w1 b1 (o1 + 2) n := hit 2 (by simp); have K2 := Lib.hid k_2; have C2 := Lib.hid hc_2; obtain ⟨A_3, c_3, hc_3, k_3⟩ : ItmAt w1 b1 (o1 + 3) a := hit 3 (by simp); have K3 := Lib.hid k_3; have C3 := Lib.hid hc_3; obtain ⟨A_4, c_4, hc_4, k_4⟩ : ItmAt w1 b1 (o1 + 4) l := hit 4 (by simp); have K4 := Lib.hid k_4; have C4 := Lib.hid hc_4; have ce1 := (K1.out w1 (Below.refl _ _)).1; clear ho hb hc1 hl1 hit hb1 k_1 hc_1 k_2 hc_2 k_3 hc_3 k_4 hc_4))
    | (go_at_call 28; go_must (refine (rDecodeRoot_any A_1 c_1 x w1 (K1.out w1 (Below.refl _ _)).2 C1.out (by have h_ := XL.out; omega)).mono ?_; rintro e w2 ⟨rfl, hb⟩; rw [HX.out.1, HX.out.2, ← HXX.out]; have RN := Lib.hid (row_new w2 Y X 47); have AN := Lib.hid (heap_alloc_new w2 (.cells Y 47)); have D2 : Hid (Below w1.heap.size w1 ((w2.alloc (.cells Y 47)).setRow w2.heap.size X)) := hb.trans (RN.out.1.mono hb.size); have P2 := Lib.hid RN.out.2.1; have ce2 := (K2.out _ D2.out).1; clear hb RN))
    | (go_at_call 66; go_must (refine (rreadNodes_any A_2 c_2 n _ (K2.out _ D2.out).2 C2.out (by have h_ := NL.out; omega)).mono ?_; rintro e w3 ⟨v, rfl, ho, hb⟩; rw [HN.out]; obtain ⟨An, cn, rfl, hcn, hrn⟩ := ownR_form ho; have ON3 := Lib.hid ho; have D3 := Lib.hid (D2.out.trans (hb.mono D2.out.size)); have P3 := Lib.hid (heap_below P2.out hb); have S3 : Hid (w1.heap.size ≤ w3.heap.size) := (D2.out.trans (hb.mono D2.out.size)).size; have ce3 := (K3.out _ D3.out).1; have ONB := Lib.hid (ownR_base ho D2.out.size); clear ho hb hcn hrn))
    | (go_at_call 65; go_must (refine (rHash2_any A_3 c_3 a w3 (K3.out _ D3.out).2 C3.out (by have h_ := AL.out; omega)).mono ?_; rintro e w4 ⟨v, nh, rfl, ho, hb⟩; obtain ⟨g2, hg⟩ : ∃ g2 : Bool, g2 = decide (a.length % 64 = 0) := ⟨_, rfl⟩; rw [← hg]; clear hg; obtain ⟨Ah, ch, rfl, hch, hrh⟩ := ownR_form ho; have OH4 := Lib.hid ho; have D4 := Lib.hid (D3.out.trans (hb.mono D3.out.size)); have P4 := Lib.hid (heap_below P3.out hb); have ON4 := Lib.hid (ownR_below ONB.out hb); have ce4 := (K4.out _ D4.out).1; clear ho hb hch hrh))
    | (go_at_call 74; go_must (refine (rReadLinks_any A_4 c_4 l w4 (K4.out _ D4.out).2 C4.out (by have h_ := LL.out; omega)).mono ?_; rintro e w5 ⟨v, nl, rfl, ho, hb⟩; obtain ⟨g3, hg⟩ : ∃ g3 : Bool, g3 = decide (l.length % 96 = 0) := ⟨_, rfl⟩; rw [← hg]; clear hg; obtain ⟨Al, cl, rfl, hcl, hrl⟩ := ownR_form ho; have OL5 := Lib.hid ho; have D5 := Lib.hid (D4.out.trans (hb.mono D4.out.size)); have P5 := Lib.hid (heap_below P4.out hb); have ON5 := Lib.hid (ownR_below ON4.out hb); have OH5 := Lib.hid (ownR_below OH4.out hb); have OLB := Lib.hid (ownR_base ho D4.out.size); have B5 := Lib.hid (B1.out.trans ((D4.out.trans (hb.mono D4.out.size)).mono B1.out.size)); have ZK5 := Lib.hid (heap_below (heap_below ZK.out D4.out) hb); clear ho hb hcl hrl))
    | (refine wpList_store_row rfl _ _ _ rfl w2.heap.size X rfl rfl 47 Y (by with_reducible exact AN.out) (by rw [XZ.out]; kernel_rfl) (by rw [XZ.out, HYz.out]) (by rw [HXX.out]; exact root_one) ?_)
    | (refine wpList_store_row rfl _ _ _ rfl w.heap.size Z rfl rfl 66 Z (by with_reducible exact ZK5.out) (by rw [HZz.out]; kernel_rfl) (by rfl) (by rw [HZ.out]; exact stepZ_one) ?_))
  have hld := ret66r (heap_setRow (cs := Z) ZK5.out) HZz.out
  refine bodyPost_ret (v := .tuple #[.agg Z, .int .i64 2]) (by simp [results, Try.results41, asAddr, hld]) rfl (.inl ⟨HD.out, by rw [← HZ.out], ?_⟩)
  exact B5.out.trans ((Frm.setRow _ _ _).1.below B5.out.size (by simp))
set_option maxRecDepth 100000 in
set_option maxHeartbeats 4000000 in
theorem rDS_e2 (A : Option Addr) (c : Nat) (b : List UInt8) (w : World) (hr : Reads w w.heap.size 1 A b.length (bvs b)) (hc : b.length ≤ c) (hm : b.length ≤ 140737488355328) (x n a l : List UInt8) (h1 : openV b stepW 4 = some [x, n, a, l]) (hD : stepD b = none) (r : RootV) (hx : rootD x = some r) (hn : nodesOK n = true) (ha : ¬ a.length % 64 = 0) : Calls Try.prog 41 #[.slice A b.length c] w (SDPost b w) := by
  obtain ⟨Z, hZ⟩ : ∃ Z : Array Value, Z = stepZ := ⟨_, rfl⟩
  have hz := hz66
  rw [← hZ] at hz
  have HZ := Lib.hid hZ
  have HZz : Hid (Z.size = 166) := by show _ = _; rw [hZ]; exact stepZ_size
  obtain ⟨Y, hY⟩ : ∃ Y : Array Value, Y = rootZ.cs := ⟨_, rfl⟩
  have hy := hz47
  rw [← hY] at hy
  have HYz : Hid (Y.size = 163) := by show _ = _; rw [hY]; decide
  have F : Hid (Below w.heap.size w (w.alloc (.cells Z 66)) ∧ (w.alloc (.cells Z 66)).heap[w.heap.size]? = some (.cells Z 66 (0, 0))) := ⟨(Below.refl _ _).alloc (Nat.le_refl _) _, heap_alloc_new _ _⟩
  have R0 : Hid (Reads (w.alloc (.cells Z 66)) (w.alloc (.cells Z 66)).heap.size 1 A b.length (bvs b)) := (hr.keep fun _ hp => F.out.1.cell hp).more F.out.1.size
  have Hc := Lib.hid hc
  have Hm := Lib.hid hm
  clear hr hc hm hZ hY
  have H1 := Lib.hid h1
  have XL := Lib.hid (openV_le2 h1 x (by simp))
  have NL := Lib.hid (openV_le2 h1 n (by simp))
  have AL := Lib.hid (openV_le2 h1 a (by simp))
  have LL := Lib.hid (openV_le2 h1 l (by simp))
  have HD := Lib.hid hD
  have HX := Lib.hid (root_yes hx)
  have RXok : Hid (r.ok) := (root_enc_dec hx).2
  obtain ⟨X, hX⟩ : ∃ X : Array Value, X = r.cs := ⟨_, rfl⟩
  have HXX := Lib.hid hX
  have XZ : Hid (X.size = 163) := by show _ = _; rw [hX]; exact root_size RXok.out
  have HN := Lib.hid hn
  have HA := Lib.hid ha
  clear h1 hx hX hD hn ha
  go_enter Try.func41, Try.ntmps41
  go_wp2_with (first
    | (go_at_call 54; go_must (refine (rparts_any A c 4 b stepW 5 rfl (by decide) _ R0.out Hc.out Hm.out).mono ?_; rintro e w1 ⟨v, rfl, ho, hb⟩; rw [H1.out]; rw [(openV_list H1.out).1] at ho; obtain ⟨A1, c1, rfl, hc1, hl1⟩ := ho.lists; have B1 := Lib.hid (F.out.1.trans (hb.mono F.out.1.size)); have ZK := Lib.hid (heap_below F.out.2 hb); rw [show (some [x, n, a, l]).isSome = true from rfl, show ([stepW, x, n, a, l] : List (List UInt8)).length = 5 from rfl]; obtain ⟨b1, o1, rfl, hb1, hit⟩ := lists_at hl1 (by simp); obtain ⟨A_1, c_1, hc_1, k_1⟩ : ItmAt w1 b1 (o1 + 1) x := hit 1 (by simp); have K1 := Lib.hid k_1; have C1 := Lib.hid hc_1; obtain ⟨A_2, c_2, hc_2, k_2⟩ : ItmAt w1 b1 (o1 + 2) n := hit 2 (by simp); have K2 := Lib.hid k_2; have C2 := Lib.hid hc_2; obtain ⟨A_3, c_3, hc_3, k_3⟩ : ItmAt w1 b1 (o1 + 3) a := hit 3 (by simp); have K3 := Lib.hid k_3; have C3 := Lib.hid hc_3; obtain ⟨A_4, c_4, hc_4, k_4⟩ : ItmAt w1 b1 (o1 + 4) l := hit 4 (by simp); have K4 := Lib.hid k_4; have C4 := Lib.hid hc_4; have ce1 := (K1.out w1 (Below.refl _ _)).1; clear ho hb hc1 hl1 hit hb1 k_1 hc_1 k_2 hc_2 k_3 hc_3 k_4 hc_4))
    | (go_at_call 28; go_must (refine (rDecodeRoot_any A_1 c_1 x w1 (K1.out w1 (Below.refl _ _)).2 C1.out (by have h_ := XL.out; omega)).mono ?_; rintro e w2 ⟨rfl, hb⟩; rw [HX.out.1, HX.out.2, ← HXX.out]; have RN := Lib.hid (row_new w2 Y X 47); have AN := Lib.hid (heap_alloc_new w2 (.cells Y 47)); have D2 : Hid (Below w1.heap.size w1 ((w2.alloc (.cells Y 47)).setRow w2.heap.size X)) := hb.trans (RN.out.1.mono hb.size); have P2 := Lib.hid RN.out.2.1; have ce2 := (K2.out _ D2.out).1; clear hb RN))
    | (go_at_call 66; go_must (refine (rreadNodes_any A_2 c_2 n _ (K2.out _ D2.out).2 C2.out (by have h_ := NL.out; omega)).mono ?_; rintro e w3 ⟨v, rfl, ho, hb⟩; rw [HN.out]; obtain ⟨An, cn, rfl, hcn, hrn⟩ := ownR_form ho; have ON3 := Lib.hid ho; have D3 := Lib.hid (D2.out.trans (hb.mono D2.out.size)); have P3 := Lib.hid (heap_below P2.out hb); have S3 : Hid (w1.heap.size ≤ w3.heap.size) := (D2.out.trans (hb.mono D2.out.size)).size; have ce3 := (K3.out _ D3.out).1; have ONB := Lib.hid (ownR_base ho D2.out.size); clear ho hb hcn hrn))
    | (go_at_call 65; go_must (refine (rHash2_any A_3 c_3 a w3 (K3.out _ D3.out).2 C3.out (by have h_ := AL.out; omega)).mono ?_; rintro e w4 ⟨v, nh, rfl, ho, hb⟩; rw [decide_eq_false HA.out]; obtain ⟨Ah, ch, rfl, hch, hrh⟩ := ownR_form ho; have OH4 := Lib.hid ho; have D4 := Lib.hid (D3.out.trans (hb.mono D3.out.size)); have P4 := Lib.hid (heap_below P3.out hb); have ON4 := Lib.hid (ownR_below ONB.out hb); have ce4 := (K4.out _ D4.out).1; clear ho hb hch hrh))
    | (go_at_call 74; go_must (refine (rReadLinks_any A_4 c_4 l w4 (K4.out _ D4.out).2 C4.out (by have h_ := LL.out; omega)).mono ?_; rintro e w5 ⟨v, nl, rfl, ho, hb⟩; obtain ⟨g3, hg⟩ : ∃ g3 : Bool, g3 = decide (l.length % 96 = 0) := ⟨_, rfl⟩; rw [← hg]; clear hg; obtain ⟨Al, cl, rfl, hcl, hrl⟩ := ownR_form ho; have OL5 := Lib.hid ho; have D5 := Lib.hid (D4.out.trans (hb.mono D4.out.size)); have P5 := Lib.hid (heap_below P4.out hb); have ON5 := Lib.hid (ownR_below ON4.out hb); have OH5 := Lib.hid (ownR_below OH4.out hb); have OLB := Lib.hid (ownR_base ho D4.out.size); have B5 := Lib.hid (B1.out.trans ((D4.out.trans (hb.mono D4.out.size)).mono B1.out.size)); have ZK5 := Lib.hid (heap_below (heap_below ZK.out D4.out) hb); clear ho hb hcl hrl))
    | (refine wpList_store_row rfl _ _ _ rfl w2.heap.size X rfl rfl 47 Y (by with_reducible exact AN.out) (by rw [XZ.out]; kernel_rfl) (by rw [XZ.out, HYz.out]) (by rw [HXX.out]; exact root_one) ?_)
    | (refine wpList_store_row rfl _ _ _ rfl w.heap.size Z rfl rfl 66 Z (by with_reducible exact ZK5.out) (by rw [HZz.out]; kernel_rfl) (by rfl) (by rw [HZ.out]; exact stepZ_one) ?_))
  have hld := ret66r (heap_setRow (cs := Z) ZK5.out) HZz.out
  refine bodyPost_ret (v := .tuple #[.agg Z, .int .i64 2]) (by simp [results, Try.results41, asAddr, hld]) rfl (.inl ⟨HD.out, by rw [← HZ.out], ?_⟩)
  exact B5.out.trans ((Frm.setRow _ _ _).1.below B5.out.size (by simp))
set_option maxRecDepth 100000 in
set_option maxHeartbeats 4000000 in
theorem rDS_e3 (A : Option Addr) (c : Nat) (b : List UInt8) (w : World) (hr : Reads w w.heap.size 1 A b.length (bvs b)) (hc : b.length ≤ c) (hm : b.length ≤ 140737488355328) (x n a l : List UInt8) (h1 : openV b stepW 4 = some [x, n, a, l]) (hD : stepD b = none) (r : RootV) (hx : rootD x = some r) (hn : nodesOK n = true) (ha : a.length % 64 = 0) (hl : ¬ l.length % 96 = 0) : Calls Try.prog 41 #[.slice A b.length c] w (SDPost b w) := by
  obtain ⟨Z, hZ⟩ : ∃ Z : Array Value, Z = stepZ := ⟨_, rfl⟩
  have hz := hz66
  rw [← hZ] at hz
  have HZ := Lib.hid hZ
  have HZz : Hid (Z.size = 166) := by show _ = _; rw [hZ]; exact stepZ_size
  obtain ⟨Y, hY⟩ : ∃ Y : Array Value, Y = rootZ.cs := ⟨_, rfl⟩
  have hy := hz47
  rw [← hY] at hy
  have HYz : Hid (Y.size = 163) := by show _ = _; rw [hY]; decide
  have F : Hid (Below w.heap.size w (w.alloc (.cells Z 66)) ∧ (w.alloc (.cells Z 66)).heap[w.heap.size]? = some (.cells Z 66 (0, 0))) := ⟨(Below.refl _ _).alloc (Nat.le_refl _) _, heap_alloc_new _ _⟩
  have R0 : Hid (Reads (w.alloc (.cells Z 66)) (w.alloc (.cells Z 66)).heap.size 1 A b.length (bvs b)) := (hr.keep fun _ hp => F.out.1.cell hp).more F.out.1.size
  have Hc := Lib.hid hc
  have Hm := Lib.hid hm
  clear hr hc hm hZ hY
  have H1 := Lib.hid h1
  have XL := Lib.hid (openV_le2 h1 x (by simp))
  have NL := Lib.hid (openV_le2 h1 n (by simp))
  have AL := Lib.hid (openV_le2 h1 a (by simp))
  have LL := Lib.hid (openV_le2 h1 l (by simp))
  have HD := Lib.hid hD
  have HX := Lib.hid (root_yes hx)
  have RXok : Hid (r.ok) := (root_enc_dec hx).2
  obtain ⟨X, hX⟩ : ∃ X : Array Value, X = r.cs := ⟨_, rfl⟩
  have HXX := Lib.hid hX
  have XZ : Hid (X.size = 163) := by show _ = _; rw [hX]; exact root_size RXok.out
  have HN := Lib.hid hn
  have HA := Lib.hid ha
  have HL := Lib.hid hl
  clear h1 hx hX hD hn ha hl
  go_enter Try.func41, Try.ntmps41
  go_wp2_with (first
    | (go_at_call 54; go_must (refine (rparts_any A c 4 b stepW 5 rfl (by decide) _ R0.out Hc.out Hm.out).mono ?_; rintro e w1 ⟨v, rfl, ho, hb⟩; rw [H1.out]; rw [(openV_list H1.out).1] at ho; obtain ⟨A1, c1, rfl, hc1, hl1⟩ := ho.lists; have B1 := Lib.hid (F.out.1.trans (hb.mono F.out.1.size)); have ZK := Lib.hid (heap_below F.out.2 hb); rw [show (some [x, n, a, l]).isSome = true from rfl, show ([stepW, x, n, a, l] : List (List UInt8)).length = 5 from rfl]; obtain ⟨b1, o1, rfl, hb1, hit⟩ := lists_at hl1 (by simp); obtain ⟨A_1, c_1, hc_1, k_1⟩ : ItmAt w1 b1 (o1 + 1) x := hit 1 (by simp); have K1 := Lib.hid k_1; have C1 := Lib.hid hc_1; obtain ⟨A_2, c_2, hc_2, k_2⟩ : ItmAt w1 b1 (o1 + 2) n := hit 2 (by simp); have K2 := Lib.hid k_2; have C2 := Lib.hid hc_2; obtain ⟨A_3, c_3, hc_3, k_3⟩ : ItmAt w1 b1 (o1 + 3) a := hit 3 (by simp); have K3 := Lib.hid k_3; have C3 := Lib.hid hc_3; obtain ⟨A_4, c_4, hc_4, k_4⟩ : ItmAt w1 b1 (o1 + 4) l := hit 4 (by simp); have K4 := Lib.hid k_4; have C4 := Lib.hid hc_4; have ce1 := (K1.out w1 (Below.refl _ _)).1; clear ho hb hc1 hl1 hit hb1 k_1 hc_1 k_2 hc_2 k_3 hc_3 k_4 hc_4))
    | (go_at_call 28; go_must (refine (rDecodeRoot_any A_1 c_1 x w1 (K1.out w1 (Below.refl _ _)).2 C1.out (by have h_ := XL.out; omega)).mono ?_; rintro e w2 ⟨rfl, hb⟩; rw [HX.out.1, HX.out.2, ← HXX.out]; have RN := Lib.hid (row_new w2 Y X 47); have AN := Lib.hid (heap_alloc_new w2 (.cells Y 47)); have D2 : Hid (Below w1.heap.size w1 ((w2.alloc (.cells Y 47)).setRow w2.heap.size X)) := hb.trans (RN.out.1.mono hb.size); have P2 := Lib.hid RN.out.2.1; have ce2 := (K2.out _ D2.out).1; clear hb RN))
    | (go_at_call 66; go_must (refine (rreadNodes_any A_2 c_2 n _ (K2.out _ D2.out).2 C2.out (by have h_ := NL.out; omega)).mono ?_; rintro e w3 ⟨v, rfl, ho, hb⟩; rw [HN.out]; obtain ⟨An, cn, rfl, hcn, hrn⟩ := ownR_form ho; have ON3 := Lib.hid ho; have D3 := Lib.hid (D2.out.trans (hb.mono D2.out.size)); have P3 := Lib.hid (heap_below P2.out hb); have S3 : Hid (w1.heap.size ≤ w3.heap.size) := (D2.out.trans (hb.mono D2.out.size)).size; have ce3 := (K3.out _ D3.out).1; have ONB := Lib.hid (ownR_base ho D2.out.size); clear ho hb hcn hrn))
    | (go_at_call 65; go_must (refine (rHash2_any A_3 c_3 a w3 (K3.out _ D3.out).2 C3.out (by have h_ := AL.out; omega)).mono ?_; rintro e w4 ⟨v, nh, rfl, ho, hb⟩; rw [decide_eq_true HA.out]; rw [if_pos HA.out] at ho; obtain ⟨Ah, ch, rfl, hch, hrh⟩ := ownR_form ho; have OH4 := Lib.hid ho; have D4 := Lib.hid (D3.out.trans (hb.mono D3.out.size)); have P4 := Lib.hid (heap_below P3.out hb); have ON4 := Lib.hid (ownR_below ONB.out hb); have ce4 := (K4.out _ D4.out).1; clear ho hb hch hrh))
    | (go_at_call 74; go_must (refine (rReadLinks_any A_4 c_4 l w4 (K4.out _ D4.out).2 C4.out (by have h_ := LL.out; omega)).mono ?_; rintro e w5 ⟨v, nl, rfl, ho, hb⟩; rw [decide_eq_false HL.out]; obtain ⟨Al, cl, rfl, hcl, hrl⟩ := ownR_form ho; have OL5 := Lib.hid ho; have D5 := Lib.hid (D4.out.trans (hb.mono D4.out.size)); have P5 := Lib.hid (heap_below P4.out hb); have ON5 := Lib.hid (ownR_below ON4.out hb); have OH5 := Lib.hid (ownR_below OH4.out hb); have OLB := Lib.hid (ownR_base ho D4.out.size); have B5 := Lib.hid (B1.out.trans ((D4.out.trans (hb.mono D4.out.size)).mono B1.out.size)); have ZK5 := Lib.hid (heap_below (heap_below ZK.out D4.out) hb); clear ho hb hcl hrl))
    | (refine wpList_store_row rfl _ _ _ rfl w2.heap.size X rfl rfl 47 Y (by with_reducible exact AN.out) (by rw [XZ.out]; kernel_rfl) (by rw [XZ.out, HYz.out]) (by rw [HXX.out]; exact root_one) ?_)
    | (refine wpList_store_row rfl _ _ _ rfl w.heap.size Z rfl rfl 66 Z (by with_reducible exact ZK5.out) (by rw [HZz.out]; kernel_rfl) (by rfl) (by rw [HZ.out]; exact stepZ_one) ?_))
  have hld := ret66r (heap_setRow (cs := Z) ZK5.out) HZz.out
  refine bodyPost_ret (v := .tuple #[.agg Z, .int .i64 2]) (by simp [results, Try.results41, asAddr, hld]) rfl (.inl ⟨HD.out, by rw [← HZ.out], ?_⟩)
  exact B5.out.trans ((Frm.setRow _ _ _).1.below B5.out.size (by simp))
end Go.Proofs.Ytbpgbihcihnieaa

namespace Go.Proofs.Ytbpgbihcihnieaa
open Go.RowKit
set_option maxRecDepth 100000 in
set_option maxHeartbeats 4000000 in
theorem rDS_ok (A : Option Addr) (c : Nat) (b : List UInt8) (w : World) (hr : Reads w w.heap.size 1 A b.length (bvs b)) (hc : b.length ≤ c) (hm : b.length ≤ 140737488355328) (x n a l : List UInt8) (h1 : openV b stepW 4 = some [x, n, a, l]) (r : RootV) (hx : rootD x = some r) (hn : nodesOK n = true) (ha : a.length % 64 = 0) (hl : l.length % 96 = 0) : Calls Try.prog 41 #[.slice A b.length c] w (SDPost b w) := by
  obtain ⟨Z, hZ⟩ : ∃ Z : Array Value, Z = stepZ := ⟨_, rfl⟩
  have hz := hz66
  rw [← hZ] at hz
  have HZ := Lib.hid hZ
  have HZz : Hid (Z.size = 166) := by show _ = _; rw [hZ]; exact stepZ_size
  obtain ⟨Y, hY⟩ : ∃ Y : Array Value, Y = rootZ.cs := ⟨_, rfl⟩
  have hy := hz47
  rw [← hY] at hy
  have HYz : Hid (Y.size = 163) := by show _ = _; rw [hY]; decide
  have F : Hid (Below w.heap.size w (w.alloc (.cells Z 66)) ∧ (w.alloc (.cells Z 66)).heap[w.heap.size]? = some (.cells Z 66 (0, 0))) := ⟨(Below.refl _ _).alloc (Nat.le_refl _) _, heap_alloc_new _ _⟩
  have R0 : Hid (Reads (w.alloc (.cells Z 66)) (w.alloc (.cells Z 66)).heap.size 1 A b.length (bvs b)) := (hr.keep fun _ hp => F.out.1.cell hp).more F.out.1.size
  have Hc := Lib.hid hc
  have Hm := Lib.hid hm
  clear hr hc hm hZ hY
  have H1 := Lib.hid h1
  have XL := Lib.hid (openV_le2 h1 x (by simp))
  have NL := Lib.hid (openV_le2 h1 n (by simp))
  have AL := Lib.hid (openV_le2 h1 a (by simp))
  have LL := Lib.hid (openV_le2 h1 l (by simp))
  have HX := Lib.hid (root_yes hx)
  have RXok : Hid (r.ok) := (root_enc_dec hx).2
  obtain ⟨X, hX⟩ : ∃ X : Array Value, X = r.cs := ⟨_, rfl⟩
  have HXX := Lib.hid hX
  have XZ : Hid (X.size = 163) := by show _ = _; rw [hX]; exact root_size RXok.out
  have HN := Lib.hid hn
  have HA := Lib.hid ha
  have HL := Lib.hid hl
  have HRX := Lib.hid hx
  clear h1 hx hX hn ha hl
  go_enter Try.func41, Try.ntmps41
  go_wp2_with (first
    | (go_at_call 54; go_must (refine (rparts_any A c 4 b stepW 5 rfl (by decide) _ R0.out Hc.out Hm.out).mono ?_; rintro e w1 ⟨v, rfl, ho, hb⟩; rw [H1.out]; rw [(openV_list H1.out).1] at ho; obtain ⟨A1, c1, rfl, hc1, hl1⟩ := ho.lists; have B1 := Lib.hid (F.out.1.trans (hb.mono F.out.1.size)); have ZK := Lib.hid (heap_below F.out.2 hb); rw [show (some [x, n, a, l]).isSome = true from rfl, show ([stepW, x, n, a, l] : List (List UInt8)).length = 5 from rfl]; obtain ⟨b1, o1, rfl, hb1, hit⟩ := lists_at hl1 (by simp); obtain ⟨A_1, c_1, hc_1, k_1⟩ : ItmAt w1 b1 (o1 + 1) x := hit 1 (by simp); have K1 := Lib.hid k_1; have C1 := Lib.hid hc_1; obtain ⟨A_2, c_2, hc_2, k_2⟩ : ItmAt w1 b1 (o1 + 2) n := hit 2 (by simp); have K2 := Lib.hid k_2; have C2 := Lib.hid hc_2; obtain ⟨A_3, c_3, hc_3, k_3⟩ : ItmAt w1 b1 (o1 + 3) a := hit 3 (by simp); have K3 := Lib.hid k_3; have C3 := Lib.hid hc_3; obtain ⟨A_4, c_4, hc_4, k_4⟩ : ItmAt w1 b1 (o1 + 4) l := hit 4 (by simp); have K4 := Lib.hid k_4; have C4 := Lib.hid hc_4; have ce1 := (K1.out w1 (Below.refl _ _)).1; clear ho hb hc1 hl1 hit hb1 k_1 hc_1 k_2 hc_2 k_3 hc_3 k_4 hc_4))
    | (go_at_call 28; go_must (refine (rDecodeRoot_any A_1 c_1 x w1 (K1.out w1 (Below.refl _ _)).2 C1.out (by have h_ := XL.out; omega)).mono ?_; rintro e w2 ⟨rfl, hb⟩; rw [HX.out.1, HX.out.2, ← HXX.out]; have RN := Lib.hid (row_new w2 Y X 47); have AN := Lib.hid (heap_alloc_new w2 (.cells Y 47)); have D2 : Hid (Below w1.heap.size w1 ((w2.alloc (.cells Y 47)).setRow w2.heap.size X)) := hb.trans (RN.out.1.mono hb.size); have P2 := Lib.hid RN.out.2.1; have ce2 := (K2.out _ D2.out).1; clear hb RN))
    | (go_at_call 66; go_must (refine (rreadNodes_any A_2 c_2 n _ (K2.out _ D2.out).2 C2.out (by have h_ := NL.out; omega)).mono ?_; rintro e w3 ⟨v, rfl, ho, hb⟩; rw [HN.out]; obtain ⟨An, cn, rfl, hcn, hrn⟩ := ownR_form ho; have ON3 := Lib.hid ho; have D3 := Lib.hid (D2.out.trans (hb.mono D2.out.size)); have P3 := Lib.hid (heap_below P2.out hb); have S3 : Hid (w1.heap.size ≤ w3.heap.size) := (D2.out.trans (hb.mono D2.out.size)).size; have ce3 := (K3.out _ D3.out).1; have ONB := Lib.hid (ownR_base ho D2.out.size); clear ho hb hcn hrn))
    | (go_at_call 65; go_must (refine (rHash2_any A_3 c_3 a w3 (K3.out _ D3.out).2 C3.out (by have h_ := AL.out; omega)).mono ?_; rintro e w4 ⟨v, nh, rfl, ho, hb⟩; rw [decide_eq_true HA.out]; rw [if_pos HA.out] at ho; obtain ⟨Ah, ch, rfl, hch, hrh⟩ := ownR_form ho; have OH4 := Lib.hid ho; have D4 := Lib.hid (D3.out.trans (hb.mono D3.out.size)); have P4 := Lib.hid (heap_below P3.out hb); have ON4 := Lib.hid (ownR_below ONB.out hb); have ce4 := (K4.out _ D4.out).1; clear ho hb hch hrh))
    | (go_at_call 74; go_must (refine (rReadLinks_any A_4 c_4 l w4 (K4.out _ D4.out).2 C4.out (by have h_ := LL.out; omega)).mono ?_; rintro e w5 ⟨v, nl, rfl, ho, hb⟩; rw [decide_eq_true HL.out]; rw [if_pos HL.out] at ho; obtain ⟨Al, cl, rfl, hcl, hrl⟩ := ownR_form ho; have OL5 := Lib.hid ho; have D5 := Lib.hid (D4.out.trans (hb.mono D4.out.size)); have P5 := Lib.hid (heap_below P4.out hb); have ON5 := Lib.hid (ownR_below ON4.out hb); have OH5 := Lib.hid (ownR_below OH4.out hb); have OLB := Lib.hid (ownR_base ho D4.out.size); have B5 := Lib.hid (B1.out.trans ((D4.out.trans (hb.mono D4.out.size)).mono B1.out.size)); have ZK5 := Lib.hid (heap_below (heap_below ZK.out D4.out) hb); clear ho hb hcl hrl))
    | (refine wpList_store_row rfl _ _ _ rfl w2.heap.size X rfl rfl 47 Y (by with_reducible exact AN.out) (by rw [XZ.out]; kernel_rfl) (by rw [XZ.out, HYz.out]) (by rw [HXX.out]; exact root_one) ?_))
  obtain ⟨m, hm2⟩ : ∃ m, a.length = 2 * m * 32 := ⟨a.length / 64, by have h_ := HA.out; omega⟩
  have HB := Lib.hid hm2
  have hnh : nh = 2 * m := by have h_ := OH5.out.1; rw [bvs_length, hm2] at h_; omega
  subst hnh
  have hm3 : (2 * m : Int) ≤ 1099511627776 := by have h_ := AL.out; omega
  obtain ⟨_, _, hv_, _, hr1⟩ := ownR_form OH5.out
  cases hv_
  have HR1 := Lib.hid hr1
  clear hm2 hr1
  go_loopw [14, 15] (fun v i wr => ∃ k : Nat, k ≤ m ∧ i = .int .i64 ((2 * k : Nat) : Int) ∧ Hid (wr.ownsRow w5.heap.size 108 64 v k (bvs (a.take (k * 64))) ∧ Below w5.heap.size w5 wr)) (fun _ i _ => 2 * m - (intOf i).toNat)
  case atStart => exact ⟨0, Nat.zero_le _, rfl, by rw [Nat.zero_mul]; exact World.ownsRow_nil w5 _ _ 64, Below.refl _ _⟩
  case round =>
    obtain ⟨k, hk, rfl, hO⟩ := hrel
    by_cases hlt : k < m
    · have hlt' : ((2 * k : Nat) : Int) < ((2 * m : Nat) : Int) := by omega
      have hlt1 : ((2 * k : Nat) : Int) + 1 < ((2 * m : Nat) : Int) := by omega
      have hk0 : (0 : Int) ≤ ((2 * k : Nat) : Int) := by omega
      obtain ⟨b0, o0, hA0, hb0, hall⟩ := flat_open HR1.out (by omega) (by decide)
      subst hA0
      have hkb : 2 * k * 32 + 64 ≤ a.length := by have h_ := HB.out; omega
      have HKB := Lib.hid hkb
      have HALL := Lib.hid hall
      obtain ⟨q0, hq0⟩ : ∃ q : Array Value, q = (bvs (seg a (2 * k * 32))).toArray := ⟨_, rfl⟩
      obtain ⟨q1, hq1⟩ : ∃ q : Array Value, q = (bvs (seg a ((2 * k + 1) * 32))).toArray := ⟨_, rfl⟩
      have Q0 := Lib.hid hq0
      have Q1 := Lib.hid hq1
      have Z0 : Hid (q0.size = 32) := by show _ = _; rw [hq0]; simp [bvs_length, seg_length (bs := a) (p := 2 * k * 32) (by omega)]
      have Z1 : Hid (q1.size = 32) := by show _ = _; rw [hq1]; simp [bvs_length, seg_length (bs := a) (p := (2 * k + 1) * 32) (by omega)]
      obtain ⟨pc, hpc⟩ : ∃ pc : Array Value, pc = (bvs (seg a (2 * k * 32) ++ seg a ((2 * k + 1) * 32))).toArray := ⟨_, rfl⟩
      have HPB : Hid ((Try.prog).built 108 [(0, .agg q0), (1, .agg q1)] = some pc) := by
        show _ = _
        rw [hq0, hq1, hpc]
        exact built_leaf (seg_length (by omega)) (seg_length (by omega))
      have HP := Lib.hid hpc
      have PZ : Hid (pc.size = 64) := by show _ = _; rw [hpc]; simp [bvs_length, seg_length (bs := a) (p := 2 * k * 32) (by omega), seg_length (bs := a) (p := (2 * k + 1) * 32) (by omega)]
      have HK := Lib.hid hlt
      clear hall hkb hq0 hq1 hpc
      go_wp2
      refine AnyC.startB (fun w' => Below w5.heap.size w5 w') (by kernel_rfl) rfl ?_
      intro w6 hb6 hs6
      clear hs6
      have O6 := Lib.hid (ownR_below hO.out.1 hb6)
      have B6 := Lib.hid (hO.out.2.trans (hb6.mono hO.out.2.size))
      clear hb6
      apply AnyC.take (i := 0) rfl (by kernel_rfl) rfl
      · intro w' hC K hK
        go_wp2
        exact hK
      · rfl
      apply AnyC.take (i := 1) rfl (by kernel_rfl) rfl
      · intro w' hC K hK
        go_wp2
        exact hK
      · rfl
      apply AnyC.take (i := 2) rfl (by kernel_rfl) rfl
      · intro w' hC K hK
        go_wp2
        exact hK
      · rfl
      apply AnyC.take (i := 3) rfl (by kernel_rfl) rfl
      · intro w' hC K hK
        go_wp2
        exact hK
      · rfl
      apply AnyC.take (i := 4) rfl (by kernel_rfl) rfl
      · intro w' hC K hK
        refine wpList_load_arr rfl _ _ rfl b0 (o0 + 2 * k * 32) rfl q0 _ (by rw [Q0.out]; exact flat_seg (by have h_ := HKB.out; omega) (HALL.out w' hC)) Try.underlying44 rfl (by rw [Z0.out]; kernel_rfl) ?_
        go_wp2
        exact hK
      · rfl
      apply AnyC.take (i := 5) rfl (by kernel_rfl) rfl
      · intro w' hC K hK
        go_wp2
        exact hK
      · rfl
      apply AnyC.take (i := 6) rfl (by kernel_rfl) rfl
      · intro w' hC K hK
        go_wp2
        exact hK
      · rfl
      apply AnyC.take (i := 7) rfl (by kernel_rfl) rfl
      · intro w' hC K hK
        go_wp2
        exact hK
      · rfl
      apply AnyC.take (i := 8) rfl (by kernel_rfl) rfl
      · intro w' hC K hK
        go_wp2
        exact hK
      · rfl
      apply AnyC.take (i := 9) rfl (by kernel_rfl) rfl
      · intro w' hC K hK
        refine wpList_load_arr rfl _ _ rfl b0 (o0 + (2 * k + 1) * 32) rfl q1 _ (by rw [Q1.out]; exact flat_seg (by have h_ := HKB.out; omega) (HALL.out w' hC)) Try.underlying44 rfl (by rw [Z1.out]; kernel_rfl) ?_
        go_wp2
        exact hK
      · rfl
      apply AnyC.take (i := 10) rfl (by kernel_rfl) rfl
      · intro w' hC K hK
        refine wpList_build_to rfl _ _ rfl [(0, .agg q0), (1, .agg q1)] rfl pc (by with_reducible exact HPB.out) ?_
        go_wp2
        exact hK
      · rfl
      apply AnyC.solo (i := 11) rfl (by kernel_rfl) B6.out
      obtain ⟨i0, hi0, hz0, hz1, hz2⟩ := info_parts leinfo
      refine slice1 (cs := pc) (s := 64) rfl rfl rfl PZ.out Try.underlying63 hi0 hz0 hz1 (by decide) ?_
      go_wp2
      refine ⟨rfl, ?_⟩
      have B7 : Hid (Below w5.heap.size w5 (w6.alloc (.cells pc 108))) := B6.out.alloc B6.out.size _
      have O7 : Hid ((w6.alloc (.cells pc 108)).ownsRow w5.heap.size 108 64 u14 k (bvs (a.take (k * 64)))) := ownR_below O6.out ((Below.refl _ _).alloc (Nat.le_refl _) _)
      apply AnyC.solo (i := 12) rfl (by kernel_rfl) B7.out
      refine app1 (cs := pc) (n := k) (xs := bvs (a.take (k * 64))) (base := w5.heap.size) rfl rfl rfl rfl Try.underlying63 hi0 hz0 hz1 hz2 (by simp [Value.cells, bvs_length]) (by decide) O7.out (heap_alloc_new _ _) PZ.out (by rw [HP.out]; exact all_oneCell_toArray (bvs_one _)) (by have h_ := HKB.out; have h2_ := AL.out; omega) (by have h_ := HKB.out; have h2_ := AL.out; omega) B7.out.size ?_
      intro v5 w9 hown hg5 hx5
      have hb5 := below_ownR B7.out O7.out hg5
      have G : Hid (w9.ownsRow w5.heap.size 108 64 v5 (k + 1) (bvs (a.take ((k + 1) * 64))) ∧ Below w5.heap.size w5 w9) := ⟨by
        rw [two_segs a k, bvs_append, show bvs (seg a (2 * k * 32) ++ seg a ((2 * k + 1) * 32)) = pc.toList from by rw [HP.out]]
        exact hown, hb5⟩
      clear hown hg5 hx5 hb5
      go_wp2
      refine ⟨rfl, ?_⟩
      apply AnyC.take (i := 13) rfl (by kernel_rfl) rfl
      · intro w' hC K hK
        go_wp2
        exact hK
      · rfl
      refine AnyC.done G.out.2 (by kernel_rfl) ?_
      go_wp2
      go_roundw
      case rel => exact ⟨k + 1, HK.out, by go_num, G.out⟩
      case measure => simp [intOf]; omega
    · obtain rfl : k = m := by omega
      have h1 := hO.out.1
      rw [show k * 64 = 2 * k * 32 from by omega, ← HB.out, List.take_length] at h1
      have OA := Lib.hid (ownR_base h1 (Nat.le_trans D5.out.size (Nat.le_refl _)))
      obtain ⟨Aa, ca, hu, hca, hrr⟩ := ownR_form h1
      subst hu
      have P6 := Lib.hid (heap_below P5.out hO.out.2)
      have ZK6 := Lib.hid (heap_below ZK5.out hO.out.2)
      have ON6 := Lib.hid (ownR_below ON5.out hO.out.2)
      have OL6 := Lib.hid (ownR_below OLB.out hO.out.2)
      have B6 := Lib.hid (B5.out.trans (hO.out.2.mono B5.out.size))
      have BS := Lib.hid B1.out.size
      obtain ⟨S, hS⟩ : ∃ S : Array Value, S = stepCs r (.slice An (nodesOf n).length cn) (.slice Aa k ca) (.slice Al nl cl) := ⟨_, rfl⟩
      have HS := Lib.hid hS
      have HSB : Hid ((Try.prog).built 66 [(0, .agg X), (1, .slice An (nodesOf n).length cn), (2, .slice Aa k ca), (3, .slice Al nl cl)] = some S) := by
        show _ = _
        rw [HXX.out, hS]
        exact built_step RXok.out
      have SZ : Hid (S.size = 166) := by show _ = _; rw [hS]; exact stepCs_size RXok.out _ _ _
      clear h1 hca hrr hS
      go_wp2_with (first
        | (refine wpList_load_arr rfl _ _ rfl w2.heap.size 0 rfl X _ (by with_reducible exact range_row P6.out) Try.underlying47 rfl (by rw [XZ.out]; kernel_rfl) ?_)
        | (refine wpList_build_to rfl _ _ rfl [(0, .agg X), (1, .slice An (nodesOf n).length cn), (2, .slice Aa k ca), (3, .slice Al nl cl)] rfl S (by with_reducible exact HSB.out) ?_)
        | (refine wpList_store_row rfl _ _ _ rfl w.heap.size S rfl rfl 66 Z (by with_reducible exact ZK6.out) (by rw [SZ.out]; kernel_rfl) (by rw [SZ.out, HZz.out]) (by rw [HS.out]; exact step_one) ?_))
      have hld := ret66r (heap_setRow (cs := S) ZK6.out) SZ.out
      have hlt0 : w.heap.size < w1.heap.size := lt_of_heap ZK.out
      have hfr := (Frm.setRow wr w.heap.size S).1
      have hne : ∀ {e : TypeId} {s n : Nat} {v : Value} {xs : List Value}, wr.ownsRow w1.heap.size e s v n xs → v.ownBlock ≠ some w.heap.size := fun h he => by
        have h3 := (World.ownsRow.lt h _ he).1
        omega
      have hk2 : ∀ {e : TypeId} {s n : Nat} {v : Value} {xs : List Value}, wr.ownsRow w1.heap.size e s v n xs → (wr.setRow w.heap.size S).ownsRow w.heap.size e s v n xs := fun h => ownR_base (ownR_frm h hfr (hne h)) (by omega)
      refine bodyPost_ret (v := .tuple #[.agg S, .int .i64 0]) (by simp [results, Try.results41, asAddr, hld]) rfl (.inr ⟨r, nodesOf n, a, l, An, Aa, Al, (nodesOf n).length, cn, k, ca, nl, cl, ?_, by rw [HS.out], hk2 ON6.out, hk2 OA.out, hk2 OL6.out, B6.out.trans (hfr.below B6.out.size (by simp))⟩)
      unfold stepD
      rw [H1.out]
      simp only [stepO, HRX.out, HN.out, decide_eq_true HA.out, decide_eq_true HL.out, Bool.and_self, if_true]
end Go.Proofs.Ytbpgbihcihnieaa
