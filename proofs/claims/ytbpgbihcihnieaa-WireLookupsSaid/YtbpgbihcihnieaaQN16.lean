/- The texts N16 of this work, merged by wip/merge.py. No conditions. -/
import Derived.Test.YtbpgbihcihnieaaQN14
namespace Go.Proofs.Ytbpgbihcihnieaa
open Go.RowKit
def NodePost (B p s lo n : Nat) (ls : List (List UInt8)) (bad : Bool) (xs : List Value) (ch : List UInt8) (w : World) (e : Ending) (w' : World) : Prop :=
  e = .returned (.tuple #[]) ∧ Fld w' p lo ls (bad || decide (256 < nodeN ch 0)) ∧ (∃ v', w'.heap[s]? = some (.cells #[v'] 53 (0, 0)) ∧ w'.ownsRow B 118 65 v' (n + 1) (xs ++ (nodeAt ch 0).vs)) ∧ Frb B [p, s] w w'
theorem built_node3 {n : Int} {x y : List UInt8} (hx : x.length = 32) (hy : y.length = 32) : (Try.prog).built 118 [(0, .int .i64 n), (1, .agg (bvs x).toArray), (2, .agg (bvs y).toArray)] = some (NodeV.mk n x y).cs := by
  rw [built_node0]
  let z32 : List Value := bvs (List.replicate 32 0)
  have lz : z32.length = 32 := by simp [z32, bvs_length]
  refine (fill_seg [] [.int .i64 0] [.int .i64 n] (z32 ++ z32) rfl rfl rfl rfl).trans ?_
  refine (fill_seg ([] ++ [.int .i64 n]) z32 (bvs x) z32 (by simp) rfl (by rw [bvs_length, hx]; rfl) (by rw [lz, bvs_length, hx])).trans ?_
  refine (fill_seg ([] ++ ([.int .i64 n] ++ bvs x)) z32 (bvs y) [] (by simp) rfl (by rw [List.nil_append, List.length_append, bvs_length, bvs_length, hx, hy]; rfl) (by rw [lz, bvs_length, hy])).trans ?_
  rw [Instr.fill]
  congr 1
  simp [NodeV.cs, NodeV.vs]
theorem seg_range {w' : World} {b off p : Nat} {bs : List UInt8} (hk : p + 32 ≤ bs.length) (h : ∀ j u, (bvs bs)[j]? = some u → w'.cell? ⟨b, off + j, none⟩ = some u) : w'.rangeAt b (off + p) (bvs (seg bs p)) := fun j v hv => by
  have hj : j < 32 := by
    rcases Nat.lt_or_ge j 32 with h' | h'
    · exact h'
    · rw [List.getElem?_eq_none (by rw [bvs_length, seg_length hk]; exact h')] at hv; cases hv
  rw [Nat.add_assoc]
  refine h _ _ ?_
  rw [← hv]
  unfold seg
  simp only [bvs, List.getElem?_map, List.getElem?_take, if_pos hj, List.getElem?_drop]
theorem frb_store {B b i : Nat} {ps : List Nat} {w w' : World} (h : Frb B ps w w') (hp : b ∈ ps) (v : Value) : Frb B ps w (w'.setCell ⟨b, i, none⟩ v) := by
  have hf := Frm.setCell w' b i v
  refine h.trans ⟨hf.os, hf.tape, hf.output, hf.size, fun k _ hn => ?_⟩
  exact Below.heap_setCell w' ⟨b, i, none⟩ v k (by show k ≠ b; rintro rfl; exact hn hp)
theorem chunk_nodeAt (b : List UInt8) (k : Nat) : nodeAt ((b.drop (k * 66)).take 66) 0 = nodeAt b k ∧ nodeN ((b.drop (k * 66)).take 66) 0 = nodeN b k := by
  have g : ∀ j, j < 66 → ((b.drop (k * 66)).take 66).getD (0 * 66 + j) 0 = b.getD (k * 66 + j) 0 := fun j hj => by
    simp only [List.getD_eq_getElem?_getD, List.getElem?_take, List.getElem?_drop, Nat.zero_mul, Nat.zero_add, if_pos hj]
  have g0 := g 0 (by omega)
  have g1 := g 1 (by omega)
  rw [Nat.add_zero, Nat.add_zero] at g0
  have hn : nodeN ((b.drop (k * 66)).take 66) 0 = nodeN b k := by unfold nodeN; rw [g0, g1]
  have hs : ∀ j, j + 32 ≤ 66 → (((b.drop (k * 66)).take 66).drop (0 * 66 + j)).take 32 = (b.drop (k * 66 + j)).take 32 := fun j hj => by
    rw [Nat.zero_mul, Nat.zero_add, List.drop_take, List.drop_drop, List.take_take, Nat.min_eq_left (by omega)]
  refine ⟨?_, hn⟩
  unfold nodeAt
  rw [hn, hs 2 (by omega), hs 34 (by omega)]
set_option maxRecDepth 100000 in
set_option maxHeartbeats 2000000 in
theorem nodes1_t (A : Option Addr) (c lo p r s B n : Nat) (t : TypeId) (v : Value) (xs : List Value) (ls : List (List UInt8)) (ch : List UInt8) (w : World) (hl : ch.length = 66) (hr : RdI lo p w A (bvs ch)) (hc : 66 ≤ c) (hF : Fld w p lo ls true) (hR : w.heap[r]? = some (.cells #[.pointer (some ⟨p, 0, none⟩)] t (0, 0))) (hs : w.heap[s]? = some (.cells #[v] 53 (0, 0)))
    (ho : w.ownsRow B 118 65 v n xs) (hpB : p < B) (hsB : s < B) (hps : p < s) (hB : B ≤ w.heap.size) (hn : (n + 1) * 72 ≤ 140737488355328) : Calls Try.prog 82 #[.slice A 66 c, .pointer (some ⟨r, 0, none⟩), .pointer (some ⟨s, 0, none⟩)] w (NodePost B p s lo n ls true xs ch w) := by
  obtain ⟨b, off, rfl, _, hb2, hall⟩ := hr (by rw [bvs_length, hl]; decide)
  obtain ⟨Av, cv, rfl, hcv, _⟩ := ownR_form ho
  have hb3 : b < w.heap.size := by omega
  have HALL : Hid (∀ w', Below w.heap.size w w' → ∀ j u, (bvs ch)[j]? = some u → w'.cell? ⟨b, off + j, none⟩ = some u) := fun w' h' j u hu => (h'.cell (p := ⟨b, off + j, none⟩) hb3).trans (hall j u hu)
  obtain ⟨x0, hx0⟩ : ∃ x, x = ch.getD 0 0 := ⟨_, rfl⟩
  obtain ⟨x1, hx1⟩ : ∃ x, x = ch.getD 1 0 := ⟨_, rfl⟩
  have hor := or2 x0.toNat_lt x1.toNat_lt
  have HC0 : Hid (∀ w', Below w.heap.size w w' → w'.cell? ⟨b, off, none⟩ = some (.int .u8 (x0.toNat : Int)) ∧ w'.cell? ⟨b, off + 1, none⟩ = some (.int .u8 (x1.toNat : Int))) := fun w' hb' => ⟨HALL.out w' hb' 0 _ (by rw [hx0]; simp [bvs, bv, List.getD_eq_getElem?_getD, List.getElem?_eq_getElem (show 0 < ch.length by omega)]), HALL.out w' hb' 1 _ (by rw [hx1]; simp [bvs, bv, List.getD_eq_getElem?_getD, List.getElem?_eq_getElem (show 1 < ch.length by omega)])⟩
  have w0 : (x0.toNat : Int) ≤ 255 := by have := x0.toNat_lt; omega
  have w0' : (0 : Int) ≤ (x0.toNat : Int) := by omega
  have w1' : (x1.toNat : Int) ≤ 255 := by have := x1.toNat_lt; omega
  have w1'' : (0 : Int) ≤ (x1.toNat : Int) := by omega
  obtain ⟨N, hN⟩ : ∃ N, N = x0.toNat * 256 + x1.toNat := ⟨_, rfl⟩
  rw [← hN] at hor
  have HNN : nodeN ch 0 = N := by rw [hN, hx0, hx1]; rfl
  have HND : Hid (nodeAt ch 0 = ⟨(N : Int), seg ch 2, seg ch 34⟩) := by show _ = _; unfold nodeAt seg; rw [HNN]
  obtain ⟨q0, hq0⟩ : ∃ q : Array Value, q = (bvs (seg ch 2)).toArray := ⟨_, rfl⟩
  obtain ⟨q1, hq1⟩ : ∃ q : Array Value, q = (bvs (seg ch 34)).toArray := ⟨_, rfl⟩
  have Q0 := Lib.hid hq0
  have Q1 := Lib.hid hq1
  have Z0 : Hid (q0.size = 32) := by show _ = _; rw [hq0]; simp [bvs_length, seg_length (bs := ch) (p := 2) (by omega)]
  have Z1 : Hid (q1.size = 32) := by show _ = _; rw [hq1]; simp [bvs_length, seg_length (bs := ch) (p := 34) (by omega)]
  obtain ⟨q2, hq2⟩ : ∃ q : Array Value, q = (nodeAt ch 0).cs := ⟨_, rfl⟩
  have HQ2 := Lib.hid hq2
  have NOK := Lib.hid (nodeAt_ok (b := ch) (k := 0) (by omega))
  have Q2Z : Hid (q2.size = 65) := by show _ = _; rw [hq2]; exact node_size NOK.out
  have HPB : Hid ((Try.prog).built 118 [(0, .int .i64 (N : Int)), (1, .agg q0), (2, .agg q1)] = some q2) := by
    show _ = _
    rw [hq0, hq1, hq2, HND.out]
    exact built_node3 (seg_length (by omega)) (seg_length (by omega))
  obtain ⟨zs, hzz, hzl⟩ := zeroNode
  have ZS := Lib.hid hzz
  have HL := Lib.hid hl
  have HF := Lib.hid hF
  have HR := Lib.hid hR
  have HS := Lib.hid hs
  have HO := Lib.hid ho
  have HN := Lib.hid hn
  have BD : Hid (p < B ∧ s < B ∧ p < s ∧ B ≤ w.heap.size) := ⟨hpB, hsB, hps, hB⟩
  have hcI : (66 : Int) ≤ (c : Int) := by omega
  have hc2 : ¬ c = 2 := by omega
  have hc34 : ¬ c = 34 := by omega
  clear hl hr hc hF hR hs ho hpB hsB hps hB hn hall hb2 hb3 hcv hx0 hx1 hN HNN hq0 hq1 hq2 hzz
  go_enter Try.func82, Try.ntmps82
  go_wp2
  refine AnyC.startB (fun w' => Below w.heap.size w w') (by kernel_rfl) rfl ?_
  intro w2 B2 hs2
  clear hs2
  apply AnyC.take (i := 0) rfl (by kernel_rfl) rfl
  · intro w' hC K hK
    go_wp2
    exact hK
  · rfl
  apply AnyC.take (i := 1) rfl (by kernel_rfl) rfl
  · intro w' hC K hK
    go_wp2
    exact hK
  · rfl
  apply AnyC.take (i := 2) rfl (by kernel_rfl) rfl
  · intro w' hC K hK
    obtain ⟨cx, _⟩ := HC0.out w' hC
    go_wp2
    exact hK
  · rfl
  apply AnyC.take (i := 3) rfl (by kernel_rfl) rfl
  · intro w' hC K hK
    go_wp2
    exact hK
  · rfl
  apply AnyC.take (i := 4) rfl (by kernel_rfl) rfl
  · intro w' hC K hK
    go_wp2
    exact hK
  · rfl
  apply AnyC.take (i := 5) rfl (by kernel_rfl) rfl
  · intro w' hC K hK
    go_wp2
    exact hK
  · rfl
  apply AnyC.take (i := 6) rfl (by kernel_rfl) rfl
  · intro w' hC K hK
    go_wp2
    exact hK
  · rfl
  apply AnyC.take (i := 7) rfl (by kernel_rfl) rfl
  · intro w' hC K hK
    obtain ⟨_, cx⟩ := HC0.out w' hC
    go_wp2
    exact hK
  · rfl
  apply AnyC.take (i := 8) rfl (by kernel_rfl) rfl
  · intro w' hC K hK
    go_wp2
    exact hK
  · rfl
  apply AnyC.take (i := 9) rfl (by kernel_rfl) rfl
  · intro w' hC K hK
    go_wp2
    exact hK
  · rfl
  apply AnyC.take (i := 10) rfl (by kernel_rfl) rfl
  · intro w' hC K hK
    go_wp2
    exact hK
  · rfl
  apply AnyC.take (i := 11) rfl (by kernel_rfl) rfl
  · intro w' hC K hK
    go_wp2
    exact hK
  · rfl
  apply AnyC.take (i := 12) rfl (by kernel_rfl) rfl
  · intro w' hC K hK
    have hap := run_arrayAt (P := Try.prog) w' 44 5 32 (some ⟨b, off + 2, none⟩) 32 (c - 2) Try.underlying44 (Nat.le_refl _)
    go_wp2
    exact hK
  · rfl
  apply AnyC.take (i := 13) rfl (by kernel_rfl) rfl
  · intro w' hC K hK
    refine wpList_load_arr rfl _ _ rfl b (off + 2) rfl q0 _ (by rw [Q0.out]; exact seg_range (by have h_ := HL.out; omega) (HALL.out w' hC)) Try.underlying44 rfl (by rw [Z0.out]; kernel_rfl) ?_
    go_wp2
    exact hK
  · rfl
  apply AnyC.take (i := 14) rfl (by kernel_rfl) rfl
  · intro w' hC K hK
    go_wp2
    exact hK
  · rfl
  apply AnyC.take (i := 15) rfl (by kernel_rfl) rfl
  · intro w' hC K hK
    go_wp2
    exact hK
  · rfl
  apply AnyC.take (i := 16) rfl (by kernel_rfl) rfl
  · intro w' hC K hK
    have hap := run_arrayAt (P := Try.prog) w' 44 5 32 (some ⟨b, off + 34, none⟩) 32 (c - 34) Try.underlying44 (Nat.le_refl _)
    go_wp2
    exact hK
  · rfl
  apply AnyC.take (i := 17) rfl (by kernel_rfl) rfl
  · intro w' hC K hK
    refine wpList_load_arr rfl _ _ rfl b (off + 34) rfl q1 _ (by rw [Q1.out]; exact seg_range (by have h_ := HL.out; omega) (HALL.out w' hC)) Try.underlying44 rfl (by rw [Z1.out]; kernel_rfl) ?_
    go_wp2
    exact hK
  · rfl
  apply AnyC.take (i := 18) rfl (by kernel_rfl) rfl
  · intro w' hC K hK
    refine wpList_build_to rfl _ _ rfl [(0, .int .i64 (N : Int)), (1, .agg q0), (2, .agg q1)] rfl q2 (by with_reducible exact HPB.out) ?_
    go_wp2
    exact hK
  · rfl
  apply AnyC.solo (i := 19) rfl (by kernel_rfl) B2
  go_wp2
  refine ⟨rfl, ?_⟩
  apply AnyC.solo (i := 20) rfl (by kernel_rfl) (B2.alloc B2.size _)
  refine wpList_store_row rfl _ _ _ rfl w2.heap.size q2 rfl rfl 118 zs (heap_alloc_new w2 _) (by rw [Q2Z.out]; kernel_rfl) (by rw [Q2Z.out, ZS.out]) (by rw [HQ2.out]; exact node_one) ?_
  go_wp2
  refine ⟨rfl, ?_⟩
  have RN := Lib.hid (row_new w2 zs q2 118)
  obtain ⟨w3, hw3⟩ : ∃ w3, w3 = (w2.alloc (.cells zs 118)).setRow w2.heap.size q2 := ⟨_, rfl⟩
  rw [← hw3]
  rw [← hw3] at RN
  have B3 := Lib.hid (B2.trans (RN.out.1.mono B2.size))
  have P3 := Lib.hid RN.out.2.1
  obtain ⟨g, hg⟩ : ∃ g, g = w2.heap.size := ⟨_, rfl⟩
  have GB : Hid (w.heap.size ≤ g) := by show _ ≤ _; rw [hg]; exact B2.size
  rw [← hg] at P3 ⊢
  clear hw3 hg RN B2
  refine AnyC.done B3.out (by kernel_rfl) ?_
  have F3 := Lib.hid (HF.out.keep (Frm.of_below (ps := []) B3.out) (by simp))
  have R3 := Lib.hid (heap_below HR.out B3.out)
  have S3 := Lib.hid (heap_below HS.out B3.out)
  have O3 := Lib.hid (ownR_below HO.out B3.out)
  have C3 : Hid (∀ w', Below w3.heap.size w3 w' → w'.cell? ⟨r, 0, none⟩ = some (.pointer (some ⟨p, 0, none⟩)) ∧ w'.cell? ⟨p, 1, none⟩ = some (.bool true) ∧ w'.cell? ⟨g, 0, none⟩ = some (.int .i64 (N : Int))) := fun w' h' => by
    refine ⟨?_, (F3.out.keep (Frm.of_below (ps := []) h') (by simp)).bad_at.1, ?_⟩
    · rw [cell_of_row w' r 0 _ _ _ (heap_below R3.out h')]; rfl
    · rw [(node_parts NOK.out (by rw [heap_below P3.out h', HQ2.out])).1, HND.out]
  go_wp2
  refine AnyZ.start [12] (by kernel_rfl) rfl ?_
  apply AnyZ.take (i := 0) rfl (by kernel_rfl) (by kernel_rfl) rfl
  · intro w' hC K hK
    obtain ⟨cr, cp, cg⟩ := C3.out w' ((below_drawn w3 _).trans hC)
    go_wp2
    exact hK
  · rfl
  apply AnyZ.take (i := 1) rfl (by kernel_rfl) (by kernel_rfl) rfl
  · intro w' hC K hK
    obtain ⟨cr, cp, cg⟩ := C3.out w' ((below_drawn w3 _).trans hC)
    go_wp2
    exact hK
  · rfl
  apply AnyZ.take (i := 2) rfl (by kernel_rfl) (by kernel_rfl) rfl
  · intro w' hC K hK
    go_wp2
    exact hK
  · rfl
  apply AnyZ.take (i := 3) rfl (by kernel_rfl) (by kernel_rfl) rfl
  · intro w' hC K hK
    go_wp2
    exact hK
  · rfl
  apply AnyZ.take (i := 4) rfl (by kernel_rfl) (by kernel_rfl) rfl
  · intro w' hC K hK
    obtain ⟨cr, cp, cg⟩ := C3.out w' ((below_drawn w3 _).trans hC)
    go_wp2
    exact hK
  · rfl
  apply AnyZ.take (i := 5) rfl (by kernel_rfl) (by kernel_rfl) rfl
  · intro w' hC K hK
    go_wp2
    exact hK
  · rfl
  apply AnyZ.take (i := 6) rfl (by kernel_rfl) (by kernel_rfl) rfl
  · intro w' hC K hK
    go_wp2
    exact hK
  · rfl
  apply AnyZ.take (i := 7) rfl (by kernel_rfl) (by kernel_rfl) rfl
  · intro w' hC K hK
    obtain ⟨cr, cp, cg⟩ := C3.out w' ((below_drawn w3 _).trans hC)
    go_wp2
    exact hK
  · rfl
  apply AnyZ.take (i := 8) rfl (by kernel_rfl) (by kernel_rfl) rfl
  · intro w' hC K hK
    go_wp2
    exact hK
  · rfl
  apply AnyZ.take (i := 9) rfl (by kernel_rfl) (by kernel_rfl) rfl
  · intro w' hC K hK
    go_wp2
    exact hK
  · rfl
  apply AnyZ.take (i := 10) rfl (by kernel_rfl) (by kernel_rfl) rfl
  · intro w' hC K hK
    go_wp2
    exact hK
  · rfl
  apply AnyZ.take (i := 11) rfl (by kernel_rfl) (by kernel_rfl) rfl
  · intro w' hC K hK
    go_wp2
    exact hK
  · rfl
  apply AnyZ.soloW (i := 12) rfl (by kernel_rfl)
  intro w4 hC4
  have B4 : Hid (Below w3.heap.size w3 w4) := (below_drawn w3 _).trans hC4
  clear hC4
  have F4 := Lib.hid (F3.out.keep (Frm.of_below (ps := []) B4.out) (by simp))
  obtain ⟨e4, hf4⟩ := F4.out.bad_at
  go_wp2
  refine ⟨rfl, ?_⟩
  refine AnyW.done (by kernel_rfl) ?_
  have G := Lib.hid (Fld.setBad true F4.out)
  have P5 := Lib.hid (G.out.2.heap (heap_below P3.out B4.out) (by have h_ := GB.out; have h2_ := BD.out; simp; omega))
  have S5 := Lib.hid (G.out.2.heap (heap_below S3.out B4.out) (by have h2_ := BD.out; simp; omega))
  have O5 := Lib.hid (ownR_frm (ownR_below O3.out B4.out) G.out.2 (fun he => by have h3 := (World.ownsRow.lt O3.out _ he).1; have h2_ := BD.out; omega))
  have FB5 : Hid (Frb B [p, s] w (w4.setCell ⟨p, 1, none⟩ (.bool true))) := frb_store (Frb.of_below ((B3.out.trans (B4.out.mono B3.out.size)).mono BD.out.2.2.2)) (by simp) _
  have F5 := Lib.hid G.out.1
  have SZ5 : Hid (B ≤ (w4.setCell ⟨p, 1, none⟩ (.bool true)).heap.size) := Nat.le_trans BD.out.2.2.2 FB5.out.size
  obtain ⟨w5, hw5⟩ : ∃ w5, w5 = w4.setCell ⟨p, 1, none⟩ (.bool true) := ⟨_, rfl⟩
  rw [← hw5] at P5 S5 O5 FB5 F5 SZ5 ⊢
  have e5 : w5.cell? ⟨s, 0, none⟩ = some (.slice Av n cv) := by rw [cell_of_row w5 s 0 _ _ _ S5.out]; rfl
  clear hw5 G e4 hf4
  go_wp2_with (first
    | (refine wpList_load_arr rfl _ _ rfl g 0 rfl q2 _ (by with_reducible exact range_row P5.out) Try.underlying118 rfl (by rw [Q2Z.out]; kernel_rfl) ?_)
    | (obtain ⟨i0, hi0, hz0, hz1, hz2⟩ := info_parts ninfo; refine slice1 (cs := q2) (s := 65) rfl rfl rfl Q2Z.out Try.underlying53 hi0 hz0 hz1 (by decide) ?_)
    | (at_builtin; go_must (obtain ⟨i0, hi0, hz0, hz1, hz2⟩ := info_parts ninfo; have A6 : Hid (Below w5.heap.size w5 (w5.alloc (.cells q2 118))) := (Below.refl _ _).alloc (Nat.le_refl _) _; have O6 := Lib.hid (ownR_below O5.out A6.out); refine app1 (cs := q2) (n := n) (xs := xs) (base := B) rfl rfl rfl rfl Try.underlying53 hi0 hz0 hz1 hz2 (by rfl) (by decide) O6.out (heap_alloc_new _ _) Q2Z.out (by rw [HQ2.out]; exact node_one) (by have h_ := HN.out; omega) (by have h_ := HN.out; omega) (Nat.le_trans SZ5.out A6.out.size) ?_; intro v8 w8 hown hg8 hx; have B8 : Hid (Below B w5 w8) := (A6.out.mono SZ5.out).grown hg8 (Nat.le_trans SZ5.out A6.out.size) (fun k hk => (World.ownsRow.lt O6.out k hk).1); have O8 : Hid (w8.ownsRow B 118 65 v8 (n + 1) (xs ++ (nodeAt ch 0).vs)) := (by rw [show (nodeAt ch 0).vs = q2.toList from by rw [HQ2.out]; rfl]; exact hown); obtain ⟨A8, c8, hv8, _, _⟩ := ownR_form hown; subst hv8; have S8 := Lib.hid ((B8.out.block s BD.out.2.1).trans S5.out); have e8 : w8.cell? ⟨s, 0, none⟩ = some (.slice Av n cv) := (by rw [cell_of_row w8 s 0 _ _ _ S8.out]; rfl); have hfz := frozen_row S8.out 0; have F8 := Lib.hid (F5.out.keepB (Frb.of_below (ps := []) B8.out) BD.out.1 (by simp)); clear hown hg8 hx)))
  first
    | go_end0
    | (refine bodyPost_ret (results_none rfl _ _ _) rfl ?_)
  have hs8 := heap_setCell_same w8 s 0 _ _ (.slice A8 (n + 1) c8) S8.out
  have hf8 := Frm.setCell w8 s 0 (.slice A8 (n + 1) c8)
  refine ⟨rfl, ?_, ⟨_, hs8, ownR_frm O8.out hf8 (fun he => ?_)⟩, frb_store (FB5.out.trans (Frb.of_below B8.out)) (by simp) _⟩
  · rw [show (true || decide (256 < nodeN ch 0)) = true from by rw [Bool.true_or]]
    exact F8.out.keep hf8 (by have h2_ := BD.out; simp; omega)
  · have h3 := (World.ownsRow.lt O8.out _ he).1
    have h2_ := BD.out
    omega
set_option maxRecDepth 100000 in
set_option maxHeartbeats 2000000 in
theorem nodes1_f0 (A : Option Addr) (c lo p r s B n : Nat) (t : TypeId) (v : Value) (xs : List Value) (ls : List (List UInt8)) (ch : List UInt8) (w : World) (hl : ch.length = 66) (hr : RdI lo p w A (bvs ch)) (hc : 66 ≤ c) (hF : Fld w p lo ls false) (hR : w.heap[r]? = some (.cells #[.pointer (some ⟨p, 0, none⟩)] t (0, 0))) (hs : w.heap[s]? = some (.cells #[v] 53 (0, 0)))
    (ho : w.ownsRow B 118 65 v n xs) (hpB : p < B) (hsB : s < B) (hps : p < s) (hB : B ≤ w.heap.size) (hn : (n + 1) * 72 ≤ 140737488355328) (hbig : ¬ 256 < nodeN ch 0) : Calls Try.prog 82 #[.slice A 66 c, .pointer (some ⟨r, 0, none⟩), .pointer (some ⟨s, 0, none⟩)] w (NodePost B p s lo n ls false xs ch w) := by
  obtain ⟨b, off, rfl, _, hb2, hall⟩ := hr (by rw [bvs_length, hl]; decide)
  obtain ⟨Av, cv, rfl, hcv, _⟩ := ownR_form ho
  have hb3 : b < w.heap.size := by omega
  have HALL : Hid (∀ w', Below w.heap.size w w' → ∀ j u, (bvs ch)[j]? = some u → w'.cell? ⟨b, off + j, none⟩ = some u) := fun w' h' j u hu => (h'.cell (p := ⟨b, off + j, none⟩) hb3).trans (hall j u hu)
  obtain ⟨x0, hx0⟩ : ∃ x, x = ch.getD 0 0 := ⟨_, rfl⟩
  obtain ⟨x1, hx1⟩ : ∃ x, x = ch.getD 1 0 := ⟨_, rfl⟩
  have hor := or2 x0.toNat_lt x1.toNat_lt
  have HC0 : Hid (∀ w', Below w.heap.size w w' → w'.cell? ⟨b, off, none⟩ = some (.int .u8 (x0.toNat : Int)) ∧ w'.cell? ⟨b, off + 1, none⟩ = some (.int .u8 (x1.toNat : Int))) := fun w' hb' => ⟨HALL.out w' hb' 0 _ (by rw [hx0]; simp [bvs, bv, List.getD_eq_getElem?_getD, List.getElem?_eq_getElem (show 0 < ch.length by omega)]), HALL.out w' hb' 1 _ (by rw [hx1]; simp [bvs, bv, List.getD_eq_getElem?_getD, List.getElem?_eq_getElem (show 1 < ch.length by omega)])⟩
  have w0 : (x0.toNat : Int) ≤ 255 := by have := x0.toNat_lt; omega
  have w0' : (0 : Int) ≤ (x0.toNat : Int) := by omega
  have w1' : (x1.toNat : Int) ≤ 255 := by have := x1.toNat_lt; omega
  have w1'' : (0 : Int) ≤ (x1.toNat : Int) := by omega
  obtain ⟨N, hN⟩ : ∃ N, N = x0.toNat * 256 + x1.toNat := ⟨_, rfl⟩
  rw [← hN] at hor
  have HNN : nodeN ch 0 = N := by rw [hN, hx0, hx1]; rfl
  have HBG := Lib.hid hbig
  rw [HNN] at hbig
  have hNI : decide ((256 : Int) < (N : Int)) = false := by rw [decide_eq_false_iff_not]; omega
  clear hbig
  have HND : Hid (nodeAt ch 0 = ⟨(N : Int), seg ch 2, seg ch 34⟩) := by show _ = _; unfold nodeAt seg; rw [HNN]
  obtain ⟨q0, hq0⟩ : ∃ q : Array Value, q = (bvs (seg ch 2)).toArray := ⟨_, rfl⟩
  obtain ⟨q1, hq1⟩ : ∃ q : Array Value, q = (bvs (seg ch 34)).toArray := ⟨_, rfl⟩
  have Q0 := Lib.hid hq0
  have Q1 := Lib.hid hq1
  have Z0 : Hid (q0.size = 32) := by show _ = _; rw [hq0]; simp [bvs_length, seg_length (bs := ch) (p := 2) (by omega)]
  have Z1 : Hid (q1.size = 32) := by show _ = _; rw [hq1]; simp [bvs_length, seg_length (bs := ch) (p := 34) (by omega)]
  obtain ⟨q2, hq2⟩ : ∃ q : Array Value, q = (nodeAt ch 0).cs := ⟨_, rfl⟩
  have HQ2 := Lib.hid hq2
  have NOK := Lib.hid (nodeAt_ok (b := ch) (k := 0) (by omega))
  have Q2Z : Hid (q2.size = 65) := by show _ = _; rw [hq2]; exact node_size NOK.out
  have HPB : Hid ((Try.prog).built 118 [(0, .int .i64 (N : Int)), (1, .agg q0), (2, .agg q1)] = some q2) := by
    show _ = _
    rw [hq0, hq1, hq2, HND.out]
    exact built_node3 (seg_length (by omega)) (seg_length (by omega))
  obtain ⟨zs, hzz, hzl⟩ := zeroNode
  have ZS := Lib.hid hzz
  have HL := Lib.hid hl
  have HF := Lib.hid hF
  have HR := Lib.hid hR
  have HS := Lib.hid hs
  have HO := Lib.hid ho
  have HN := Lib.hid hn
  have BD : Hid (p < B ∧ s < B ∧ p < s ∧ B ≤ w.heap.size) := ⟨hpB, hsB, hps, hB⟩
  have hcI : (66 : Int) ≤ (c : Int) := by omega
  have hc2 : ¬ c = 2 := by omega
  have hc34 : ¬ c = 34 := by omega
  clear hl hr hc hF hR hs ho hpB hsB hps hB hn hall hb2 hb3 hcv hx0 hx1 hN HNN hq0 hq1 hq2 hzz
  go_enter Try.func82, Try.ntmps82
  go_wp2
  refine AnyC.startB (fun w' => Below w.heap.size w w') (by kernel_rfl) rfl ?_
  intro w2 B2 hs2
  clear hs2
  apply AnyC.take (i := 0) rfl (by kernel_rfl) rfl
  · intro w' hC K hK
    go_wp2
    exact hK
  · rfl
  apply AnyC.take (i := 1) rfl (by kernel_rfl) rfl
  · intro w' hC K hK
    go_wp2
    exact hK
  · rfl
  apply AnyC.take (i := 2) rfl (by kernel_rfl) rfl
  · intro w' hC K hK
    obtain ⟨cx, _⟩ := HC0.out w' hC
    go_wp2
    exact hK
  · rfl
  apply AnyC.take (i := 3) rfl (by kernel_rfl) rfl
  · intro w' hC K hK
    go_wp2
    exact hK
  · rfl
  apply AnyC.take (i := 4) rfl (by kernel_rfl) rfl
  · intro w' hC K hK
    go_wp2
    exact hK
  · rfl
  apply AnyC.take (i := 5) rfl (by kernel_rfl) rfl
  · intro w' hC K hK
    go_wp2
    exact hK
  · rfl
  apply AnyC.take (i := 6) rfl (by kernel_rfl) rfl
  · intro w' hC K hK
    go_wp2
    exact hK
  · rfl
  apply AnyC.take (i := 7) rfl (by kernel_rfl) rfl
  · intro w' hC K hK
    obtain ⟨_, cx⟩ := HC0.out w' hC
    go_wp2
    exact hK
  · rfl
  apply AnyC.take (i := 8) rfl (by kernel_rfl) rfl
  · intro w' hC K hK
    go_wp2
    exact hK
  · rfl
  apply AnyC.take (i := 9) rfl (by kernel_rfl) rfl
  · intro w' hC K hK
    go_wp2
    exact hK
  · rfl
  apply AnyC.take (i := 10) rfl (by kernel_rfl) rfl
  · intro w' hC K hK
    go_wp2
    exact hK
  · rfl
  apply AnyC.take (i := 11) rfl (by kernel_rfl) rfl
  · intro w' hC K hK
    go_wp2
    exact hK
  · rfl
  apply AnyC.take (i := 12) rfl (by kernel_rfl) rfl
  · intro w' hC K hK
    have hap := run_arrayAt (P := Try.prog) w' 44 5 32 (some ⟨b, off + 2, none⟩) 32 (c - 2) Try.underlying44 (Nat.le_refl _)
    go_wp2
    exact hK
  · rfl
  apply AnyC.take (i := 13) rfl (by kernel_rfl) rfl
  · intro w' hC K hK
    refine wpList_load_arr rfl _ _ rfl b (off + 2) rfl q0 _ (by rw [Q0.out]; exact seg_range (by have h_ := HL.out; omega) (HALL.out w' hC)) Try.underlying44 rfl (by rw [Z0.out]; kernel_rfl) ?_
    go_wp2
    exact hK
  · rfl
  apply AnyC.take (i := 14) rfl (by kernel_rfl) rfl
  · intro w' hC K hK
    go_wp2
    exact hK
  · rfl
  apply AnyC.take (i := 15) rfl (by kernel_rfl) rfl
  · intro w' hC K hK
    go_wp2
    exact hK
  · rfl
  apply AnyC.take (i := 16) rfl (by kernel_rfl) rfl
  · intro w' hC K hK
    have hap := run_arrayAt (P := Try.prog) w' 44 5 32 (some ⟨b, off + 34, none⟩) 32 (c - 34) Try.underlying44 (Nat.le_refl _)
    go_wp2
    exact hK
  · rfl
  apply AnyC.take (i := 17) rfl (by kernel_rfl) rfl
  · intro w' hC K hK
    refine wpList_load_arr rfl _ _ rfl b (off + 34) rfl q1 _ (by rw [Q1.out]; exact seg_range (by have h_ := HL.out; omega) (HALL.out w' hC)) Try.underlying44 rfl (by rw [Z1.out]; kernel_rfl) ?_
    go_wp2
    exact hK
  · rfl
  apply AnyC.take (i := 18) rfl (by kernel_rfl) rfl
  · intro w' hC K hK
    refine wpList_build_to rfl _ _ rfl [(0, .int .i64 (N : Int)), (1, .agg q0), (2, .agg q1)] rfl q2 (by with_reducible exact HPB.out) ?_
    go_wp2
    exact hK
  · rfl
  apply AnyC.solo (i := 19) rfl (by kernel_rfl) B2
  go_wp2
  refine ⟨rfl, ?_⟩
  apply AnyC.solo (i := 20) rfl (by kernel_rfl) (B2.alloc B2.size _)
  refine wpList_store_row rfl _ _ _ rfl w2.heap.size q2 rfl rfl 118 zs (heap_alloc_new w2 _) (by rw [Q2Z.out]; kernel_rfl) (by rw [Q2Z.out, ZS.out]) (by rw [HQ2.out]; exact node_one) ?_
  go_wp2
  refine ⟨rfl, ?_⟩
  have RN := Lib.hid (row_new w2 zs q2 118)
  obtain ⟨w3, hw3⟩ : ∃ w3, w3 = (w2.alloc (.cells zs 118)).setRow w2.heap.size q2 := ⟨_, rfl⟩
  rw [← hw3]
  rw [← hw3] at RN
  have B3 := Lib.hid (B2.trans (RN.out.1.mono B2.size))
  have P3 := Lib.hid RN.out.2.1
  obtain ⟨g, hg⟩ : ∃ g, g = w2.heap.size := ⟨_, rfl⟩
  have GB : Hid (w.heap.size ≤ g) := by show _ ≤ _; rw [hg]; exact B2.size
  rw [← hg] at P3 ⊢
  clear hw3 hg RN B2
  refine AnyC.done B3.out (by kernel_rfl) ?_
  have F3 := Lib.hid (HF.out.keep (Frm.of_below (ps := []) B3.out) (by simp))
  have R3 := Lib.hid (heap_below HR.out B3.out)
  have S3 := Lib.hid (heap_below HS.out B3.out)
  have O3 := Lib.hid (ownR_below HO.out B3.out)
  have C3 : Hid (∀ w', Below w3.heap.size w3 w' → w'.cell? ⟨r, 0, none⟩ = some (.pointer (some ⟨p, 0, none⟩)) ∧ w'.cell? ⟨p, 1, none⟩ = some (.bool false) ∧ w'.cell? ⟨g, 0, none⟩ = some (.int .i64 (N : Int))) := fun w' h' => by
    refine ⟨?_, (F3.out.keep (Frm.of_below (ps := []) h') (by simp)).bad_at.1, ?_⟩
    · rw [cell_of_row w' r 0 _ _ _ (heap_below R3.out h')]; rfl
    · rw [(node_parts NOK.out (by rw [heap_below P3.out h', HQ2.out])).1, HND.out]
  go_wp2
  refine AnyZ.start [12] (by kernel_rfl) rfl ?_
  apply AnyZ.take (i := 0) rfl (by kernel_rfl) (by kernel_rfl) rfl
  · intro w' hC K hK
    obtain ⟨cr, cp, cg⟩ := C3.out w' ((below_drawn w3 _).trans hC)
    go_wp2
    exact hK
  · rfl
  apply AnyZ.take (i := 1) rfl (by kernel_rfl) (by kernel_rfl) rfl
  · intro w' hC K hK
    obtain ⟨cr, cp, cg⟩ := C3.out w' ((below_drawn w3 _).trans hC)
    go_wp2
    exact hK
  · rfl
  apply AnyZ.take (i := 2) rfl (by kernel_rfl) (by kernel_rfl) rfl
  · intro w' hC K hK
    go_wp2
    exact hK
  · rfl
  apply AnyZ.take (i := 3) rfl (by kernel_rfl) (by kernel_rfl) rfl
  · intro w' hC K hK
    go_wp2
    exact hK
  · rfl
  apply AnyZ.take (i := 4) rfl (by kernel_rfl) (by kernel_rfl) rfl
  · intro w' hC K hK
    obtain ⟨cr, cp, cg⟩ := C3.out w' ((below_drawn w3 _).trans hC)
    go_wp2
    exact hK
  · rfl
  apply AnyZ.take (i := 5) rfl (by kernel_rfl) (by kernel_rfl) rfl
  · intro w' hC K hK
    go_wp2
    exact hK
  · rfl
  apply AnyZ.take (i := 6) rfl (by kernel_rfl) (by kernel_rfl) rfl
  · intro w' hC K hK
    go_wp2
    exact hK
  · rfl
  apply AnyZ.take (i := 7) rfl (by kernel_rfl) (by kernel_rfl) rfl
  · intro w' hC K hK
    obtain ⟨cr, cp, cg⟩ := C3.out w' ((below_drawn w3 _).trans hC)
    go_wp2
    exact hK
  · rfl
  apply AnyZ.take (i := 8) rfl (by kernel_rfl) (by kernel_rfl) rfl
  · intro w' hC K hK
    go_wp2
    exact hK
  · rfl
  apply AnyZ.take (i := 9) rfl (by kernel_rfl) (by kernel_rfl) rfl
  · intro w' hC K hK
    go_wp2
    exact hK
  · rfl
  apply AnyZ.take (i := 10) rfl (by kernel_rfl) (by kernel_rfl) rfl
  · intro w' hC K hK
    go_wp2
    exact hK
  · rfl
  apply AnyZ.take (i := 11) rfl (by kernel_rfl) (by kernel_rfl) rfl
  · intro w' hC K hK
    go_wp2
    exact hK
  · rfl
  apply AnyZ.soloW (i := 12) rfl (by kernel_rfl)
  intro w4 hC4
  have B4 : Hid (Below w3.heap.size w3 w4) := (below_drawn w3 _).trans hC4
  clear hC4
  have F4 := Lib.hid (F3.out.keep (Frm.of_below (ps := []) B4.out) (by simp))
  obtain ⟨e4, hf4⟩ := F4.out.bad_at
  go_wp2
  refine ⟨rfl, ?_⟩
  refine AnyW.done (by kernel_rfl) ?_
  have G := Lib.hid (Fld.setBad false F4.out)
  have P5 := Lib.hid (G.out.2.heap (heap_below P3.out B4.out) (by have h_ := GB.out; have h2_ := BD.out; simp; omega))
  have S5 := Lib.hid (G.out.2.heap (heap_below S3.out B4.out) (by have h2_ := BD.out; simp; omega))
  have O5 := Lib.hid (ownR_frm (ownR_below O3.out B4.out) G.out.2 (fun he => by have h3 := (World.ownsRow.lt O3.out _ he).1; have h2_ := BD.out; omega))
  have FB5 : Hid (Frb B [p, s] w (w4.setCell ⟨p, 1, none⟩ (.bool false))) := frb_store (Frb.of_below ((B3.out.trans (B4.out.mono B3.out.size)).mono BD.out.2.2.2)) (by simp) _
  have F5 := Lib.hid G.out.1
  have SZ5 : Hid (B ≤ (w4.setCell ⟨p, 1, none⟩ (.bool false)).heap.size) := Nat.le_trans BD.out.2.2.2 FB5.out.size
  obtain ⟨w5, hw5⟩ : ∃ w5, w5 = w4.setCell ⟨p, 1, none⟩ (.bool false) := ⟨_, rfl⟩
  rw [← hw5] at P5 S5 O5 FB5 F5 SZ5 ⊢
  have e5 : w5.cell? ⟨s, 0, none⟩ = some (.slice Av n cv) := by rw [cell_of_row w5 s 0 _ _ _ S5.out]; rfl
  clear hw5 G e4 hf4
  go_wp2_with (first
    | (refine wpList_load_arr rfl _ _ rfl g 0 rfl q2 _ (by with_reducible exact range_row P5.out) Try.underlying118 rfl (by rw [Q2Z.out]; kernel_rfl) ?_)
    | (obtain ⟨i0, hi0, hz0, hz1, hz2⟩ := info_parts ninfo; refine slice1 (cs := q2) (s := 65) rfl rfl rfl Q2Z.out Try.underlying53 hi0 hz0 hz1 (by decide) ?_)
    | (at_builtin; go_must (obtain ⟨i0, hi0, hz0, hz1, hz2⟩ := info_parts ninfo; have A6 : Hid (Below w5.heap.size w5 (w5.alloc (.cells q2 118))) := (Below.refl _ _).alloc (Nat.le_refl _) _; have O6 := Lib.hid (ownR_below O5.out A6.out); refine app1 (cs := q2) (n := n) (xs := xs) (base := B) rfl rfl rfl rfl Try.underlying53 hi0 hz0 hz1 hz2 (by rfl) (by decide) O6.out (heap_alloc_new _ _) Q2Z.out (by rw [HQ2.out]; exact node_one) (by have h_ := HN.out; omega) (by have h_ := HN.out; omega) (Nat.le_trans SZ5.out A6.out.size) ?_; intro v8 w8 hown hg8 hx; have B8 : Hid (Below B w5 w8) := (A6.out.mono SZ5.out).grown hg8 (Nat.le_trans SZ5.out A6.out.size) (fun k hk => (World.ownsRow.lt O6.out k hk).1); have O8 : Hid (w8.ownsRow B 118 65 v8 (n + 1) (xs ++ (nodeAt ch 0).vs)) := (by rw [show (nodeAt ch 0).vs = q2.toList from by rw [HQ2.out]; rfl]; exact hown); obtain ⟨A8, c8, hv8, _, _⟩ := ownR_form hown; subst hv8; have S8 := Lib.hid ((B8.out.block s BD.out.2.1).trans S5.out); have e8 : w8.cell? ⟨s, 0, none⟩ = some (.slice Av n cv) := (by rw [cell_of_row w8 s 0 _ _ _ S8.out]; rfl); have hfz := frozen_row S8.out 0; have F8 := Lib.hid (F5.out.keepB (Frb.of_below (ps := []) B8.out) BD.out.1 (by simp)); clear hown hg8 hx)))
  first
    | go_end0
    | (refine bodyPost_ret (results_none rfl _ _ _) rfl ?_)
  have hs8 := heap_setCell_same w8 s 0 _ _ (.slice A8 (n + 1) c8) S8.out
  have hf8 := Frm.setCell w8 s 0 (.slice A8 (n + 1) c8)
  refine ⟨rfl, ?_, ⟨_, hs8, ownR_frm O8.out hf8 (fun he => ?_)⟩, frb_store (FB5.out.trans (Frb.of_below B8.out)) (by simp) _⟩
  · rw [show (false || decide (256 < nodeN ch 0)) = false from by rw [Bool.false_or, decide_eq_false HBG.out]]
    exact F8.out.keep hf8 (by have h2_ := BD.out; simp; omega)
  · have h3 := (World.ownsRow.lt O8.out _ he).1
    have h2_ := BD.out
    omega
set_option maxRecDepth 100000 in
set_option maxHeartbeats 2000000 in
theorem nodes1_f1 (A : Option Addr) (c lo p r s B n : Nat) (t : TypeId) (v : Value) (xs : List Value) (ls : List (List UInt8)) (ch : List UInt8) (w : World) (hl : ch.length = 66) (hr : RdI lo p w A (bvs ch)) (hc : 66 ≤ c) (hF : Fld w p lo ls false) (hR : w.heap[r]? = some (.cells #[.pointer (some ⟨p, 0, none⟩)] t (0, 0))) (hs : w.heap[s]? = some (.cells #[v] 53 (0, 0)))
    (ho : w.ownsRow B 118 65 v n xs) (hpB : p < B) (hsB : s < B) (hps : p < s) (hB : B ≤ w.heap.size) (hn : (n + 1) * 72 ≤ 140737488355328) (hbig : 256 < nodeN ch 0) : Calls Try.prog 82 #[.slice A 66 c, .pointer (some ⟨r, 0, none⟩), .pointer (some ⟨s, 0, none⟩)] w (NodePost B p s lo n ls false xs ch w) := by
  obtain ⟨b, off, rfl, _, hb2, hall⟩ := hr (by rw [bvs_length, hl]; decide)
  obtain ⟨Av, cv, rfl, hcv, _⟩ := ownR_form ho
  have hb3 : b < w.heap.size := by omega
  have HALL : Hid (∀ w', Below w.heap.size w w' → ∀ j u, (bvs ch)[j]? = some u → w'.cell? ⟨b, off + j, none⟩ = some u) := fun w' h' j u hu => (h'.cell (p := ⟨b, off + j, none⟩) hb3).trans (hall j u hu)
  obtain ⟨x0, hx0⟩ : ∃ x, x = ch.getD 0 0 := ⟨_, rfl⟩
  obtain ⟨x1, hx1⟩ : ∃ x, x = ch.getD 1 0 := ⟨_, rfl⟩
  have hor := or2 x0.toNat_lt x1.toNat_lt
  have HC0 : Hid (∀ w', Below w.heap.size w w' → w'.cell? ⟨b, off, none⟩ = some (.int .u8 (x0.toNat : Int)) ∧ w'.cell? ⟨b, off + 1, none⟩ = some (.int .u8 (x1.toNat : Int))) := fun w' hb' => ⟨HALL.out w' hb' 0 _ (by rw [hx0]; simp [bvs, bv, List.getD_eq_getElem?_getD, List.getElem?_eq_getElem (show 0 < ch.length by omega)]), HALL.out w' hb' 1 _ (by rw [hx1]; simp [bvs, bv, List.getD_eq_getElem?_getD, List.getElem?_eq_getElem (show 1 < ch.length by omega)])⟩
  have w0 : (x0.toNat : Int) ≤ 255 := by have := x0.toNat_lt; omega
  have w0' : (0 : Int) ≤ (x0.toNat : Int) := by omega
  have w1' : (x1.toNat : Int) ≤ 255 := by have := x1.toNat_lt; omega
  have w1'' : (0 : Int) ≤ (x1.toNat : Int) := by omega
  obtain ⟨N, hN⟩ : ∃ N, N = x0.toNat * 256 + x1.toNat := ⟨_, rfl⟩
  rw [← hN] at hor
  have HNN : nodeN ch 0 = N := by rw [hN, hx0, hx1]; rfl
  have HBG := Lib.hid hbig
  rw [HNN] at hbig
  have hNI : decide ((256 : Int) < (N : Int)) = true := by rw [decide_eq_true_eq]; omega
  clear hbig
  have HND : Hid (nodeAt ch 0 = ⟨(N : Int), seg ch 2, seg ch 34⟩) := by show _ = _; unfold nodeAt seg; rw [HNN]
  obtain ⟨q0, hq0⟩ : ∃ q : Array Value, q = (bvs (seg ch 2)).toArray := ⟨_, rfl⟩
  obtain ⟨q1, hq1⟩ : ∃ q : Array Value, q = (bvs (seg ch 34)).toArray := ⟨_, rfl⟩
  have Q0 := Lib.hid hq0
  have Q1 := Lib.hid hq1
  have Z0 : Hid (q0.size = 32) := by show _ = _; rw [hq0]; simp [bvs_length, seg_length (bs := ch) (p := 2) (by omega)]
  have Z1 : Hid (q1.size = 32) := by show _ = _; rw [hq1]; simp [bvs_length, seg_length (bs := ch) (p := 34) (by omega)]
  obtain ⟨q2, hq2⟩ : ∃ q : Array Value, q = (nodeAt ch 0).cs := ⟨_, rfl⟩
  have HQ2 := Lib.hid hq2
  have NOK := Lib.hid (nodeAt_ok (b := ch) (k := 0) (by omega))
  have Q2Z : Hid (q2.size = 65) := by show _ = _; rw [hq2]; exact node_size NOK.out
  have HPB : Hid ((Try.prog).built 118 [(0, .int .i64 (N : Int)), (1, .agg q0), (2, .agg q1)] = some q2) := by
    show _ = _
    rw [hq0, hq1, hq2, HND.out]
    exact built_node3 (seg_length (by omega)) (seg_length (by omega))
  obtain ⟨zs, hzz, hzl⟩ := zeroNode
  have ZS := Lib.hid hzz
  have HL := Lib.hid hl
  have HF := Lib.hid hF
  have HR := Lib.hid hR
  have HS := Lib.hid hs
  have HO := Lib.hid ho
  have HN := Lib.hid hn
  have BD : Hid (p < B ∧ s < B ∧ p < s ∧ B ≤ w.heap.size) := ⟨hpB, hsB, hps, hB⟩
  have hcI : (66 : Int) ≤ (c : Int) := by omega
  have hc2 : ¬ c = 2 := by omega
  have hc34 : ¬ c = 34 := by omega
  clear hl hr hc hF hR hs ho hpB hsB hps hB hn hall hb2 hb3 hcv hx0 hx1 hN HNN hq0 hq1 hq2 hzz
  go_enter Try.func82, Try.ntmps82
  go_wp2
  refine AnyC.startB (fun w' => Below w.heap.size w w') (by kernel_rfl) rfl ?_
  intro w2 B2 hs2
  clear hs2
  apply AnyC.take (i := 0) rfl (by kernel_rfl) rfl
  · intro w' hC K hK
    go_wp2
    exact hK
  · rfl
  apply AnyC.take (i := 1) rfl (by kernel_rfl) rfl
  · intro w' hC K hK
    go_wp2
    exact hK
  · rfl
  apply AnyC.take (i := 2) rfl (by kernel_rfl) rfl
  · intro w' hC K hK
    obtain ⟨cx, _⟩ := HC0.out w' hC
    go_wp2
    exact hK
  · rfl
  apply AnyC.take (i := 3) rfl (by kernel_rfl) rfl
  · intro w' hC K hK
    go_wp2
    exact hK
  · rfl
  apply AnyC.take (i := 4) rfl (by kernel_rfl) rfl
  · intro w' hC K hK
    go_wp2
    exact hK
  · rfl
  apply AnyC.take (i := 5) rfl (by kernel_rfl) rfl
  · intro w' hC K hK
    go_wp2
    exact hK
  · rfl
  apply AnyC.take (i := 6) rfl (by kernel_rfl) rfl
  · intro w' hC K hK
    go_wp2
    exact hK
  · rfl
  apply AnyC.take (i := 7) rfl (by kernel_rfl) rfl
  · intro w' hC K hK
    obtain ⟨_, cx⟩ := HC0.out w' hC
    go_wp2
    exact hK
  · rfl
  apply AnyC.take (i := 8) rfl (by kernel_rfl) rfl
  · intro w' hC K hK
    go_wp2
    exact hK
  · rfl
  apply AnyC.take (i := 9) rfl (by kernel_rfl) rfl
  · intro w' hC K hK
    go_wp2
    exact hK
  · rfl
  apply AnyC.take (i := 10) rfl (by kernel_rfl) rfl
  · intro w' hC K hK
    go_wp2
    exact hK
  · rfl
  apply AnyC.take (i := 11) rfl (by kernel_rfl) rfl
  · intro w' hC K hK
    go_wp2
    exact hK
  · rfl
  apply AnyC.take (i := 12) rfl (by kernel_rfl) rfl
  · intro w' hC K hK
    have hap := run_arrayAt (P := Try.prog) w' 44 5 32 (some ⟨b, off + 2, none⟩) 32 (c - 2) Try.underlying44 (Nat.le_refl _)
    go_wp2
    exact hK
  · rfl
  apply AnyC.take (i := 13) rfl (by kernel_rfl) rfl
  · intro w' hC K hK
    refine wpList_load_arr rfl _ _ rfl b (off + 2) rfl q0 _ (by rw [Q0.out]; exact seg_range (by have h_ := HL.out; omega) (HALL.out w' hC)) Try.underlying44 rfl (by rw [Z0.out]; kernel_rfl) ?_
    go_wp2
    exact hK
  · rfl
  apply AnyC.take (i := 14) rfl (by kernel_rfl) rfl
  · intro w' hC K hK
    go_wp2
    exact hK
  · rfl
  apply AnyC.take (i := 15) rfl (by kernel_rfl) rfl
  · intro w' hC K hK
    go_wp2
    exact hK
  · rfl
  apply AnyC.take (i := 16) rfl (by kernel_rfl) rfl
  · intro w' hC K hK
    have hap := run_arrayAt (P := Try.prog) w' 44 5 32 (some ⟨b, off + 34, none⟩) 32 (c - 34) Try.underlying44 (Nat.le_refl _)
    go_wp2
    exact hK
  · rfl
  apply AnyC.take (i := 17) rfl (by kernel_rfl) rfl
  · intro w' hC K hK
    refine wpList_load_arr rfl _ _ rfl b (off + 34) rfl q1 _ (by rw [Q1.out]; exact seg_range (by have h_ := HL.out; omega) (HALL.out w' hC)) Try.underlying44 rfl (by rw [Z1.out]; kernel_rfl) ?_
    go_wp2
    exact hK
  · rfl
  apply AnyC.take (i := 18) rfl (by kernel_rfl) rfl
  · intro w' hC K hK
    refine wpList_build_to rfl _ _ rfl [(0, .int .i64 (N : Int)), (1, .agg q0), (2, .agg q1)] rfl q2 (by with_reducible exact HPB.out) ?_
    go_wp2
    exact hK
  · rfl
  apply AnyC.solo (i := 19) rfl (by kernel_rfl) B2
  go_wp2
  refine ⟨rfl, ?_⟩
  apply AnyC.solo (i := 20) rfl (by kernel_rfl) (B2.alloc B2.size _)
  refine wpList_store_row rfl _ _ _ rfl w2.heap.size q2 rfl rfl 118 zs (heap_alloc_new w2 _) (by rw [Q2Z.out]; kernel_rfl) (by rw [Q2Z.out, ZS.out]) (by rw [HQ2.out]; exact node_one) ?_
  go_wp2
  refine ⟨rfl, ?_⟩
  have RN := Lib.hid (row_new w2 zs q2 118)
  obtain ⟨w3, hw3⟩ : ∃ w3, w3 = (w2.alloc (.cells zs 118)).setRow w2.heap.size q2 := ⟨_, rfl⟩
  rw [← hw3]
  rw [← hw3] at RN
  have B3 := Lib.hid (B2.trans (RN.out.1.mono B2.size))
  have P3 := Lib.hid RN.out.2.1
  obtain ⟨g, hg⟩ : ∃ g, g = w2.heap.size := ⟨_, rfl⟩
  have GB : Hid (w.heap.size ≤ g) := by show _ ≤ _; rw [hg]; exact B2.size
  rw [← hg] at P3 ⊢
  clear hw3 hg RN B2
  refine AnyC.done B3.out (by kernel_rfl) ?_
  have F3 := Lib.hid (HF.out.keep (Frm.of_below (ps := []) B3.out) (by simp))
  have R3 := Lib.hid (heap_below HR.out B3.out)
  have S3 := Lib.hid (heap_below HS.out B3.out)
  have O3 := Lib.hid (ownR_below HO.out B3.out)
  have C3 : Hid (∀ w', Below w3.heap.size w3 w' → w'.cell? ⟨r, 0, none⟩ = some (.pointer (some ⟨p, 0, none⟩)) ∧ w'.cell? ⟨p, 1, none⟩ = some (.bool false) ∧ w'.cell? ⟨g, 0, none⟩ = some (.int .i64 (N : Int))) := fun w' h' => by
    refine ⟨?_, (F3.out.keep (Frm.of_below (ps := []) h') (by simp)).bad_at.1, ?_⟩
    · rw [cell_of_row w' r 0 _ _ _ (heap_below R3.out h')]; rfl
    · rw [(node_parts NOK.out (by rw [heap_below P3.out h', HQ2.out])).1, HND.out]
  go_wp2
  refine AnyZ.start [12] (by kernel_rfl) rfl ?_
  apply AnyZ.take (i := 0) rfl (by kernel_rfl) (by kernel_rfl) rfl
  · intro w' hC K hK
    obtain ⟨cr, cp, cg⟩ := C3.out w' ((below_drawn w3 _).trans hC)
    go_wp2
    exact hK
  · rfl
  apply AnyZ.take (i := 1) rfl (by kernel_rfl) (by kernel_rfl) rfl
  · intro w' hC K hK
    obtain ⟨cr, cp, cg⟩ := C3.out w' ((below_drawn w3 _).trans hC)
    go_wp2
    exact hK
  · rfl
  apply AnyZ.take (i := 2) rfl (by kernel_rfl) (by kernel_rfl) rfl
  · intro w' hC K hK
    go_wp2
    exact hK
  · rfl
  apply AnyZ.take (i := 3) rfl (by kernel_rfl) (by kernel_rfl) rfl
  · intro w' hC K hK
    go_wp2
    exact hK
  · rfl
  apply AnyZ.take (i := 4) rfl (by kernel_rfl) (by kernel_rfl) rfl
  · intro w' hC K hK
    obtain ⟨cr, cp, cg⟩ := C3.out w' ((below_drawn w3 _).trans hC)
    go_wp2
    exact hK
  · rfl
  apply AnyZ.take (i := 5) rfl (by kernel_rfl) (by kernel_rfl) rfl
  · intro w' hC K hK
    go_wp2
    exact hK
  · rfl
  apply AnyZ.take (i := 6) rfl (by kernel_rfl) (by kernel_rfl) rfl
  · intro w' hC K hK
    go_wp2
    exact hK
  · rfl
  apply AnyZ.take (i := 7) rfl (by kernel_rfl) (by kernel_rfl) rfl
  · intro w' hC K hK
    obtain ⟨cr, cp, cg⟩ := C3.out w' ((below_drawn w3 _).trans hC)
    go_wp2
    exact hK
  · rfl
  apply AnyZ.take (i := 8) rfl (by kernel_rfl) (by kernel_rfl) rfl
  · intro w' hC K hK
    go_wp2
    exact hK
  · rfl
  apply AnyZ.take (i := 9) rfl (by kernel_rfl) (by kernel_rfl) rfl
  · intro w' hC K hK
    go_wp2
    exact hK
  · rfl
  apply AnyZ.take (i := 10) rfl (by kernel_rfl) (by kernel_rfl) rfl
  · intro w' hC K hK
    go_wp2
    exact hK
  · rfl
  apply AnyZ.take (i := 11) rfl (by kernel_rfl) (by kernel_rfl) rfl
  · intro w' hC K hK
    go_wp2
    exact hK
  · rfl
  apply AnyZ.soloW (i := 12) rfl (by kernel_rfl)
  intro w4 hC4
  have B4 : Hid (Below w3.heap.size w3 w4) := (below_drawn w3 _).trans hC4
  clear hC4
  have F4 := Lib.hid (F3.out.keep (Frm.of_below (ps := []) B4.out) (by simp))
  obtain ⟨e4, hf4⟩ := F4.out.bad_at
  go_wp2
  refine ⟨rfl, ?_⟩
  refine AnyW.done (by kernel_rfl) ?_
  have G := Lib.hid (Fld.setBad true F4.out)
  have P5 := Lib.hid (G.out.2.heap (heap_below P3.out B4.out) (by have h_ := GB.out; have h2_ := BD.out; simp; omega))
  have S5 := Lib.hid (G.out.2.heap (heap_below S3.out B4.out) (by have h2_ := BD.out; simp; omega))
  have O5 := Lib.hid (ownR_frm (ownR_below O3.out B4.out) G.out.2 (fun he => by have h3 := (World.ownsRow.lt O3.out _ he).1; have h2_ := BD.out; omega))
  have FB5 : Hid (Frb B [p, s] w (w4.setCell ⟨p, 1, none⟩ (.bool true))) := frb_store (Frb.of_below ((B3.out.trans (B4.out.mono B3.out.size)).mono BD.out.2.2.2)) (by simp) _
  have F5 := Lib.hid G.out.1
  have SZ5 : Hid (B ≤ (w4.setCell ⟨p, 1, none⟩ (.bool true)).heap.size) := Nat.le_trans BD.out.2.2.2 FB5.out.size
  obtain ⟨w5, hw5⟩ : ∃ w5, w5 = w4.setCell ⟨p, 1, none⟩ (.bool true) := ⟨_, rfl⟩
  rw [← hw5] at P5 S5 O5 FB5 F5 SZ5 ⊢
  have e5 : w5.cell? ⟨s, 0, none⟩ = some (.slice Av n cv) := by rw [cell_of_row w5 s 0 _ _ _ S5.out]; rfl
  clear hw5 G e4 hf4
  go_wp2_with (first
    | (refine wpList_load_arr rfl _ _ rfl g 0 rfl q2 _ (by with_reducible exact range_row P5.out) Try.underlying118 rfl (by rw [Q2Z.out]; kernel_rfl) ?_)
    | (obtain ⟨i0, hi0, hz0, hz1, hz2⟩ := info_parts ninfo; refine slice1 (cs := q2) (s := 65) rfl rfl rfl Q2Z.out Try.underlying53 hi0 hz0 hz1 (by decide) ?_)
    | (at_builtin; go_must (obtain ⟨i0, hi0, hz0, hz1, hz2⟩ := info_parts ninfo; have A6 : Hid (Below w5.heap.size w5 (w5.alloc (.cells q2 118))) := (Below.refl _ _).alloc (Nat.le_refl _) _; have O6 := Lib.hid (ownR_below O5.out A6.out); refine app1 (cs := q2) (n := n) (xs := xs) (base := B) rfl rfl rfl rfl Try.underlying53 hi0 hz0 hz1 hz2 (by rfl) (by decide) O6.out (heap_alloc_new _ _) Q2Z.out (by rw [HQ2.out]; exact node_one) (by have h_ := HN.out; omega) (by have h_ := HN.out; omega) (Nat.le_trans SZ5.out A6.out.size) ?_; intro v8 w8 hown hg8 hx; have B8 : Hid (Below B w5 w8) := (A6.out.mono SZ5.out).grown hg8 (Nat.le_trans SZ5.out A6.out.size) (fun k hk => (World.ownsRow.lt O6.out k hk).1); have O8 : Hid (w8.ownsRow B 118 65 v8 (n + 1) (xs ++ (nodeAt ch 0).vs)) := (by rw [show (nodeAt ch 0).vs = q2.toList from by rw [HQ2.out]; rfl]; exact hown); obtain ⟨A8, c8, hv8, _, _⟩ := ownR_form hown; subst hv8; have S8 := Lib.hid ((B8.out.block s BD.out.2.1).trans S5.out); have e8 : w8.cell? ⟨s, 0, none⟩ = some (.slice Av n cv) := (by rw [cell_of_row w8 s 0 _ _ _ S8.out]; rfl); have hfz := frozen_row S8.out 0; have F8 := Lib.hid (F5.out.keepB (Frb.of_below (ps := []) B8.out) BD.out.1 (by simp)); clear hown hg8 hx)))
  first
    | go_end0
    | (refine bodyPost_ret (results_none rfl _ _ _) rfl ?_)
  have hs8 := heap_setCell_same w8 s 0 _ _ (.slice A8 (n + 1) c8) S8.out
  have hf8 := Frm.setCell w8 s 0 (.slice A8 (n + 1) c8)
  refine ⟨rfl, ?_, ⟨_, hs8, ownR_frm O8.out hf8 (fun he => ?_)⟩, frb_store (FB5.out.trans (Frb.of_below B8.out)) (by simp) _⟩
  · rw [show (false || decide (256 < nodeN ch 0)) = true from by rw [Bool.false_or, decide_eq_true HBG.out]]
    exact F8.out.keep hf8 (by have h2_ := BD.out; simp; omega)
  · have h3 := (World.ownsRow.lt O8.out _ he).1
    have h2_ := BD.out
    omega
theorem nodes1_any (A : Option Addr) (c lo p r s B n : Nat) (t : TypeId) (v : Value) (xs : List Value) (ls : List (List UInt8)) (bad : Bool) (ch : List UInt8) (w : World) (hl : ch.length = 66) (hr : RdI lo p w A (bvs ch)) (hc : 66 ≤ c) (hF : Fld w p lo ls bad) (hR : w.heap[r]? = some (.cells #[.pointer (some ⟨p, 0, none⟩)] t (0, 0))) (hs : w.heap[s]? = some (.cells #[v] 53 (0, 0)))
    (ho : w.ownsRow B 118 65 v n xs) (hpB : p < B) (hsB : s < B) (hps : p < s) (hB : B ≤ w.heap.size) (hn : (n + 1) * 72 ≤ 140737488355328) : Calls Try.prog 82 #[.slice A 66 c, .pointer (some ⟨r, 0, none⟩), .pointer (some ⟨s, 0, none⟩)] w (NodePost B p s lo n ls bad xs ch w) := by
  cases bad with
  | true => exact nodes1_t A c lo p r s B n t v xs ls ch w hl hr hc hF hR hs ho hpB hsB hps hB hn
  | false =>
    by_cases hbig : 256 < nodeN ch 0
    · exact nodes1_f1 A c lo p r s B n t v xs ls ch w hl hr hc hF hR hs ho hpB hsB hps hB hn hbig
    · exact nodes1_f0 A c lo p r s B n t v xs ls ch w hl hr hc hF hR hs ho hpB hsB hps hB hn hbig
end Go.Proofs.Ytbpgbihcihnieaa
