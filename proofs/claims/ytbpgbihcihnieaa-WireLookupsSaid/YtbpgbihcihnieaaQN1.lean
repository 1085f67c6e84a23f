/- The texts N1 N2 N3 N4 N5 N6a of this work, merged by wip/merge.py. No conditions. -/
import Derived.Test.YtbpgbihcihnieaaQV11
import Derived.Test.YtbpgbihcihnieaaQBase
namespace Go.Proofs.Ytbpgbihcihnieaa
open Go.RowKit
theorem flat_open {w : World} {B size n : Nat} {A : Option Addr} {bs : List UInt8} (h : Reads w B size A n (bvs bs)) (h0 : 0 < n) (hs : 0 < size) :
    ∃ b off, A = some ⟨b, off, none⟩ ∧ b < B ∧ ∀ w', Below B w w' → ∀ j u, (bvs bs)[j]? = some u → w'.cell? ⟨b, off + j, none⟩ = some u := by
  obtain ⟨hl, hr⟩ := h
  obtain ⟨⟨b, off, spot⟩, rfl, hb, hc⟩ := hr h0
  have hpos : 0 < n * size := Nat.mul_pos h0 hs
  have hc0 := hc 0 _ (List.getElem?_eq_getElem (show 0 < (bvs bs).length by omega))
  have hsp : spot = none := by simpa [Addr.add] using World.cell?_spot hc0
  subst hsp
  refine ⟨b, off, rfl, hb, fun w' hb' j u hu => ?_⟩
  have h1 := hc j u hu
  rw [add_none] at h1
  exact (hb'.cell (p := ⟨b, off + j, none⟩) hb).trans h1
def piece (bs : List UInt8) (size k : Nat) : List UInt8 := (bs.drop (k * size)).take size
theorem piece_length {bs : List UInt8} {size k n : Nat} (hl : bs.length = n * size) (hk : k < n) : (piece bs size k).length = size := by
  have h1 : (k + 1) * size ≤ n * size := Nat.mul_le_mul_right _ hk
  rw [Nat.add_mul, Nat.one_mul] at h1
  unfold piece
  rw [List.length_take, List.length_drop, hl]
  omega
theorem piece_next (bs : List UInt8) (size k : Nat) : bs.take (k * size) ++ piece bs size k = bs.take ((k + 1) * size) := by
  unfold piece
  rw [Nat.add_mul, Nat.one_mul, List.take_add]
theorem piece_at {bs : List UInt8} {size k j : Nat} (hj : j < size) : (bvs (piece bs size k))[j]? = (bvs bs)[k * size + j]? := by
  unfold piece
  simp only [bvs, List.getElem?_map, List.getElem?_take, if_pos hj, List.getElem?_drop]
theorem flat_range {w' : World} {b off size k n : Nat} {bs : List UInt8} (hl : bs.length = n * size) (hk : k < n) (h : ∀ j u, (bvs bs)[j]? = some u → w'.cell? ⟨b, off + j, none⟩ = some u) : w'.rangeAt b (off + k * size) (bvs (piece bs size k)) := fun j v hv => by
  have hj : j < size := by
    rcases Nat.lt_or_ge j size with h' | h'
    · exact h'
    · rw [List.getElem?_eq_none (by rw [bvs_length, piece_length hl hk]; exact h')] at hv; cases hv
  rw [piece_at hj] at hv
  rw [Nat.add_assoc]
  exact h _ _ hv
theorem flat_reads {w' : World} {b off size k n : Nat} {bs : List UInt8} (hl : bs.length = n * size) (hk : k < n) (hb : b < w'.heap.size) (h : ∀ j u, (bvs bs)[j]? = some u → w'.cell? ⟨b, off + j, none⟩ = some u) : Reads w' w'.heap.size 1 (some ⟨b, off + k * size, none⟩) size (bvs (piece bs size k)) :=
  ⟨by rw [bvs_length, piece_length hl hk, Nat.mul_one], fun _ => ⟨_, rfl, hb, fun j u hu => by rw [add_none]; exact flat_range hl hk h j u hu⟩⟩
theorem reads_block {w : World} {b : Nat} {l : List UInt8} {t : TypeId} {f : Nat × Nat} {n : Nat} (h : w.heap[b]? = some (.cells (bvs l).toArray t f)) (hn : l.length = n) : Reads w w.heap.size 1 (some ⟨b, 0, none⟩) n (bvs l) := by
  subst hn
  refine ⟨by simp [bvs_length], fun _ => ⟨_, rfl, lt_of_heap h, fun j u hu => ?_⟩⟩
  rw [add_none]
  show w.cell? ⟨b, 0 + j, none⟩ = _
  rw [Nat.zero_add, cell_of_row w b j _ _ _ h]
  simpa using hu
set_option maxRecDepth 100000 in
set_option maxHeartbeats 1000000 in
theorem Joined_any (A : Option Addr) (n c : Nat) (bs : List UInt8) (w : World) (hr : Reads w w.heap.size 32 A n (bvs bs)) (hm : bs.length ≤ 140737488355328) : Calls Try.prog 58 #[.slice A n c] w (BPost bs w) := by
  have hl : bs.length = n * 32 := by have := hr.1; rwa [bvs_length] at this
  obtain ⟨zs, hzs⟩ : ∃ zs : Array Value, zs = (bvs (List.replicate 32 0)).toArray := ⟨_, rfl⟩
  have hz32 := zeroRow32
  rw [← hzs] at hz32
  have ZS : Hid (zs.size = 32) := by show _ = _; rw [hzs]; simp [bvs_length]
  have hnb : n ≤ 140737488355328 := by omega
  have HL := Lib.hid hl
  have HM := Lib.hid hm
  have HR := Lib.hid hr
  clear hzs hl hm hr
  go_enter Try.func58, Try.ntmps58
  go_wp2
  go_loopw [3, 8] (fun v i wr => ∃ k : Nat, k ≤ n ∧ i = .int .i64 (k : Int) ∧ Hid (Own8 wr w.heap.size v (bs.take (k * 32)) ∧ Below w.heap.size w wr)) (fun _ i _ => n - (intOf i).toNat)
  case atStart => exact ⟨0, Nat.zero_le _, rfl, by rw [Nat.zero_mul]; exact own8_nil _ _, Below.refl _ _⟩
  case round =>
    obtain ⟨k, hk, rfl, hO⟩ := hrel
    by_cases hlt : k < n
    · have hlt' : (k : Int) < (n : Int) := by omega
      have hk0 : (0 : Int) ≤ (k : Int) := by omega
      obtain ⟨b, off, rfl, hb, hall⟩ := flat_open HR.out (by omega) (by decide)
      obtain ⟨pc, hpc⟩ : ∃ pc : Array Value, pc = (bvs (piece bs 32 k)).toArray := ⟨_, rfl⟩
      have HP := Lib.hid hpc
      have PZ : Hid (pc.size = 32) := by show _ = _; rw [hpc]; simp [bvs_length, piece_length HL.out hlt]
      have RG : Hid (wr.rangeAt b (off + k * 32) pc.toList) := by show World.rangeAt _ _ _ _; rw [hpc]; exact flat_range HL.out hlt (hall wr hO.out.2)
      have RN := Lib.hid (row_new wr zs pc 44)
      have AN := Lib.hid (heap_alloc_new wr (.cells zs 44))
      have HK := Lib.hid hlt
      have Hb := Lib.hid hb
      clear hpc hall hb
      go_wp2_with (first
        | (refine wpList_load_arr rfl _ _ rfl b (off + k * 32) rfl pc _ (by with_reducible exact RG.out) Try.underlying44 rfl (by rw [PZ.out]; kernel_rfl) ?_)
        | (refine wpList_store_row rfl _ _ _ rfl wr.heap.size pc rfl rfl 44 zs (by with_reducible exact AN.out) (by rw [PZ.out]; kernel_rfl) (by rw [PZ.out, ZS.out]) (by rw [HP.out]; exact all_oneCell_toArray (bvs_one _)) ?_)
        | (at_builtin; go_must (refine app8 rfl rfl rfl rfl (own8_below hO.out.1 RN.out.1) (reads_block (n := 32) (l := piece bs 32 k) (by rw [RN.out.2.1, HP.out]) (piece_length HL.out HK.out)) (by have h_ := HM.out; have h2_ := HL.out; simp; omega) (Nat.le_trans hO.out.2.size RN.out.1.size) ?_; intro v4 w4 hown4 hg4 hx4; have hb4 := below_own8 (hO.out.2.trans (RN.out.1.mono hO.out.2.size)) (own8_below hO.out.1 RN.out.1) hg4; rw [piece_next] at hown4; have G := Lib.hid (And.intro hown4 hb4); clear hg4 hx4 hown4 hb4)))
      go_roundw
      case rel => exact ⟨k + 1, hlt, by go_num, G.out⟩
      case measure => simp [intOf]; omega
    · obtain rfl : k = n := by omega
      go_wp2
      go_ret
      have h1 := hO.out.1
      rw [List.take_of_length_le (by rw [HL.out]; exact Nat.le_refl _)] at h1
      exact ⟨_, rfl, h1, hO.out.2⟩
set_option maxRecDepth 100000 in
set_option maxHeartbeats 1000000 in
theorem rHashes_any (A : Option Addr) (n c : Nat) (bs : List UInt8) (w : World) (hr : Reads w w.heap.size 32 A n (bvs bs)) (hm : bs.length ≤ 140737488355328) : Calls Try.prog 60 #[.slice A n c] w (BPost bs w) := by
  have hl : bs.length = n * 32 := by have := hr.1; rwa [bvs_length] at this
  have hnb : n ≤ 140737488355328 := by omega
  have HL := Lib.hid hl
  have HM := Lib.hid hm
  have HR := Lib.hid hr
  clear hl hm hr
  go_enter Try.func60, Try.ntmps60
  go_wp2
  go_loopw [3, 7] (fun v i wr => ∃ k : Nat, k ≤ n ∧ i = .int .i64 (k : Int) ∧ Hid (Own8 wr w.heap.size v (bs.take (k * 32)) ∧ Below w.heap.size w wr)) (fun _ i _ => n - (intOf i).toNat)
  case atStart => exact ⟨0, Nat.zero_le _, rfl, by rw [Nat.zero_mul]; exact own8_nil _ _, Below.refl _ _⟩
  case round =>
    obtain ⟨k, hk, rfl, hO⟩ := hrel
    by_cases hlt : k < n
    · have hlt' : (k : Int) < (n : Int) := by omega
      have hk0 : (0 : Int) ≤ (k : Int) := by omega
      obtain ⟨b, off, rfl, hb, hall⟩ := flat_open HR.out (by omega) (by decide)
      have RG := Lib.hid (flat_reads HL.out hlt (Nat.lt_of_lt_of_le hb hO.out.2.size) (hall wr hO.out.2))
      have HK := Lib.hid hlt
      clear hall hb
      go_wp2_with (at_builtin; go_must (refine app8 rfl rfl rfl rfl hO.out.1 RG.out (by have h_ := HM.out; have h2_ := HL.out; simp; omega) hO.out.2.size ?_; intro v4 w4 hown4 hg4 hx4; have hb4 := below_own8 hO.out.2 hO.out.1 hg4; rw [piece_next] at hown4; have G := Lib.hid (And.intro hown4 hb4); clear hg4 hx4 hown4 hb4))
      go_roundw
      case rel => exact ⟨k + 1, hlt, by go_num, G.out⟩
      case measure => simp [intOf]; omega
    · obtain rfl : k = n := by omega
      go_wp2
      go_ret
      have h1 := hO.out.1
      rw [List.take_of_length_le (by rw [HL.out]; exact Nat.le_refl _)] at h1
      exact ⟨_, rfl, h1, hO.out.2⟩
end Go.Proofs.Ytbpgbihcihnieaa

namespace Go.Proofs.Ytbpgbihcihnieaa
open Go.RowKit
def seg (bs : List UInt8) (p : Nat) : List UInt8 := (bs.drop p).take 32
theorem seg_length {bs : List UInt8} {p : Nat} (h : p + 32 ≤ bs.length) : (seg bs p).length = 32 := by
  unfold seg
  rw [List.length_take, List.length_drop]
  omega
theorem seg_next (bs : List UInt8) (p : Nat) : bs.take p ++ seg bs p = bs.take (p + 32) := by
  unfold seg
  rw [List.take_add]
theorem seg_next' (bs : List UInt8) {p q : Nat} (h : q = p + 32) : bs.take p ++ seg bs p = bs.take q := by rw [h]; exact seg_next bs p
theorem seg_reads {w' : World} {b off p : Nat} {bs : List UInt8} (hp : p + 32 ≤ bs.length) (hb : b < w'.heap.size) (h : ∀ j u, (bvs bs)[j]? = some u → w'.cell? ⟨b, off + j, none⟩ = some u) : Reads w' w'.heap.size 1 (some ⟨b, off + p, none⟩) 32 (bvs (seg bs p)) :=
  ⟨by rw [bvs_length, seg_length hp], fun _ => ⟨_, rfl, hb, fun j u hu => by
    have hj : j < 32 := by
      rcases Nat.lt_or_ge j 32 with h' | h'
      · exact h'
      · rw [List.getElem?_eq_none (by rw [bvs_length, seg_length hp]; exact h')] at hu; cases hu
    rw [add_none]
    show w'.cell? ⟨b, off + p + j, none⟩ = _
    rw [Nat.add_assoc]
    refine h _ _ ?_
    rw [← hu]
    unfold seg
    simp only [bvs, List.getElem?_map, List.getElem?_take, if_pos hj, List.getElem?_drop]⟩⟩
/-- A row that holds a piece. -/
theorem seg_block {w : World} {b size k p : Nat} {bs : List UInt8} {cs : Array Value} {t : TypeId} {f : Nat × Nat} (h : w.heap[b]? = some (.cells cs t f)) (hc : cs = (bvs (piece bs size k)).toArray) (hp : p + 32 ≤ size) (hl : k * size + size ≤ bs.length) {q : Nat} (hq : q = k * size + p) : Reads w w.heap.size 1 (some ⟨b, p, none⟩) 32 (bvs (seg bs q)) := by
  subst hq
  exact
  ⟨by rw [bvs_length, seg_length (by omega)], fun _ => ⟨_, rfl, lt_of_heap h, fun j u hu => by
    have hj : j < 32 := by
      rcases Nat.lt_or_ge j 32 with h' | h'
      · exact h'
      · rw [List.getElem?_eq_none (by rw [bvs_length, seg_length (by omega)]; exact h')] at hu; cases hu
    rw [add_none, cell_of_row w b (p + j) _ _ _ h, hc, List.getElem?_toArray, piece_at (by omega), ← hu]
    unfold seg
    simp only [bvs, List.getElem?_map, List.getElem?_take, if_pos hj, List.getElem?_drop, Nat.add_assoc]⟩⟩
theorem zeroLink : ∃ zs : Array Value, zs.size = 96 ∧ ∀ w, (zeroValue 121).run Try.prog w = .ok (.agg zs) w := ⟨(bvs (List.replicate 96 0)).toArray, by simp [bvs_length], fun w => by kernel_rfl⟩
theorem zeroLeaf : ∃ zs : Array Value, zs.size = 64 ∧ ∀ w, (zeroValue 108).run Try.prog w = .ok (.agg zs) w := ⟨(bvs (List.replicate 64 0)).toArray, by simp [bvs_length], fun w => by kernel_rfl⟩
theorem own_other {w w' : World} {b : Nat} {o : Obj} {v : Value} (h : w.heap[b]? = some o) (hg : w.grownBy w' v.ownBlock) (hne : v.ownBlock ≠ some b) : w'.heap[b]? = some o := (hg.block b (lt_of_heap h) (fun e => hne e.symm)).trans h
theorem own_ne_new {w : World} {base : Nat} {v : Value} {l : List UInt8} (h : Own8 w base v l) : v.ownBlock ≠ some w.heap.size := fun e => absurd (own8_lt h _ e).2 (Nat.lt_irrefl _)
theorem own_ne_next {v v' : Value} {b n : Nat} (h : v'.ownBlock = v.ownBlock ∨ v'.ownBlock = some n) (hne : v.ownBlock ≠ some b) (hb : b < n) : v'.ownBlock ≠ some b := by
  rcases h with h | h
  · rw [h]; exact hne
  · rw [h]; intro e; cases e; exact absurd hb (Nat.lt_irrefl _)
set_option maxRecDepth 100000 in
set_option maxHeartbeats 2000000 in
theorem LinksBytes_any (A : Option Addr) (n c : Nat) (bs : List UInt8) (w : World) (hr : Reads w w.heap.size 96 A n (bvs bs)) (hm : bs.length ≤ 140737488355328) : Calls Try.prog 69 #[.slice A n c] w (BPost bs w) := by
  have hl : bs.length = n * 96 := by have := hr.1; rwa [bvs_length] at this
  have hnb : n ≤ 140737488355328 := by omega
  have HL := Lib.hid hl
  have HM := Lib.hid hm
  have HR := Lib.hid hr
  clear hl hm hr
  obtain ⟨zs, hzz, hzl⟩ := zeroLink
  have ZS := Lib.hid hzz
  clear hzz
  go_enter Try.func69, Try.ntmps69
  go_wp2
  go_loopw [3, 8] (fun v i wr => ∃ k : Nat, k ≤ n ∧ i = .int .i64 (k : Int) ∧ Hid (Own8 wr w.heap.size v (bs.take (k * 96)) ∧ Below w.heap.size w wr)) (fun _ i _ => n - (intOf i).toNat)
  case atStart => exact ⟨0, Nat.zero_le _, rfl, by rw [Nat.zero_mul]; exact own8_nil _ _, Below.refl _ _⟩
  case round =>
    obtain ⟨k, hk, rfl, hO⟩ := hrel
    by_cases hlt : k < n
    · have hlt' : (k : Int) < (n : Int) := by omega
      have hk0 : (0 : Int) ≤ (k : Int) := by omega
      obtain ⟨b, off, rfl, hb, hall⟩ := flat_open HR.out (by omega) (by decide)
      have hks : k * 96 + 96 ≤ bs.length := by have h_ := HL.out; omega
      have HK := Lib.hid hks
      obtain ⟨pc, hpc⟩ : ∃ pc : Array Value, pc = (bvs (piece bs 96 k)).toArray := ⟨_, rfl⟩
      have HP := Lib.hid hpc
      have PZ : Hid (pc.size = 96) := by show _ = _; rw [hpc]; simp [bvs_length, piece_length HL.out hlt]
      have RG : Hid (wr.rangeAt b (off + k * 96) pc.toList) := by show World.rangeAt _ _ _ _; rw [hpc]; exact flat_range HL.out hlt (hall wr hO.out.2)
      have RN := Lib.hid (row_new wr zs pc 121)
      have AN := Lib.hid (heap_alloc_new wr (.cells zs 121))
      have O0 := Lib.hid (own8_below hO.out.1 RN.out.1)
      have B0 := Lib.hid (hO.out.2.trans (RN.out.1.mono hO.out.2.size))
      have P0 := Lib.hid RN.out.2.1
      have TA0 : Hid True := trivial
      clear hpc hall hb hks
      have NE0 := Lib.hid (own_ne_new hO.out.1)
      go_wp2_with (first
        | (refine wpList_load_arr rfl _ _ rfl b (off + k * 96) rfl pc _ (by with_reducible exact RG.out) Try.underlying121 rfl (by rw [PZ.out]; kernel_rfl) ?_)
        | (refine wpList_store_row rfl _ _ _ rfl wr.heap.size pc rfl rfl 121 zs (by with_reducible exact AN.out) (by rw [PZ.out]; kernel_rfl) (by rw [PZ.out, ZS.out]) (by rw [HP.out]; exact all_oneCell_toArray (bvs_one _)) ?_)
        | (at_builtin; have hx_ := TA2; go_must (refine app8 rfl rfl rfl rfl O2.out (seg_block (p := 64) (q := k * 96 + 64) P2.out HP.out (by decide) HK.out (by omega)) (by have h_ := HM.out; have h2_ := HK.out; simp; omega) B2.out.size ?_; intro v3 w3 hown hg hx; have P3 := Lib.hid (own_other P2.out hg NE2.out); have NE3 := Lib.hid (own_ne_next hx NE2.out (lt_of_heap P2.out)); have B3 := Lib.hid (below_own8 B2.out O2.out hg); rw [seg_next' bs (q := k * 96 + 96) (by omega)] at hown; have O3 := Lib.hid hown; have TA3 := hx_; clear hown hg hx TA2 hx_))
        | (at_builtin; have hx_ := TA1; go_must (refine app8 rfl rfl rfl rfl O1.out (seg_block (p := 32) (q := k * 96 + 32) P1.out HP.out (by decide) HK.out (by omega)) (by have h_ := HM.out; have h2_ := HK.out; simp; omega) B1.out.size ?_; intro v2 w2 hown hg hx; have P2 := Lib.hid (own_other P1.out hg NE1.out); have NE2 := Lib.hid (own_ne_next hx NE1.out (lt_of_heap P1.out)); have B2 := Lib.hid (below_own8 B1.out O1.out hg); rw [seg_next' bs (q := k * 96 + 64) (by omega)] at hown; have O2 := Lib.hid hown; have TA2 := hx_; clear hown hg hx TA1 hx_))
        | (at_builtin; have hx_ := TA0; go_must (refine app8 rfl rfl rfl rfl O0.out (seg_block (p := 0) (q := k * 96) P0.out HP.out (by decide) HK.out (by omega)) (by have h_ := HM.out; have h2_ := HK.out; simp; omega) B0.out.size ?_; intro v1 w1 hown hg hx; have P1 := Lib.hid (own_other P0.out hg NE0.out); have NE1 := Lib.hid (own_ne_next hx NE0.out (lt_of_heap P0.out)); have B1 := Lib.hid (below_own8 B0.out O0.out hg); rw [seg_next' bs (q := k * 96 + 32) (by omega)] at hown; have O1 := Lib.hid hown; have TA1 := hx_; clear hown hg hx TA0 hx_)))
      go_roundw
      case rel => exact ⟨k + 1, hlt, by go_num, by rw [show (k + 1) * 96 = k * 96 + 96 from by omega]; exact O3.out, B3.out⟩
      case measure => simp [intOf]; omega
    · obtain rfl : k = n := by omega
      go_wp2
      go_ret
      have h1 := hO.out.1
      rw [List.take_of_length_le (by rw [HL.out]; exact Nat.le_refl _)] at h1
      exact ⟨_, rfl, h1, hO.out.2⟩
set_option maxRecDepth 100000 in
set_option maxHeartbeats 2000000 in
theorem rLeavesBytes_any (A : Option Addr) (n c : Nat) (bs : List UInt8) (w : World) (hr : Reads w w.heap.size 64 A n (bvs bs)) (hm : bs.length ≤ 140737488355328) : Calls Try.prog 70 #[.slice A n c] w (BPost bs w) := by
  have hl : bs.length = n * 64 := by have := hr.1; rwa [bvs_length] at this
  have hnb : n ≤ 140737488355328 := by omega
  have HL := Lib.hid hl
  have HM := Lib.hid hm
  have HR := Lib.hid hr
  clear hl hm hr
  go_enter Try.func70, Try.ntmps70
  go_wp2
  go_loopw [3, 7] (fun v i wr => ∃ k : Nat, k ≤ n ∧ i = .int .i64 (k : Int) ∧ Hid (Own8 wr w.heap.size v (bs.take (k * 64)) ∧ Below w.heap.size w wr)) (fun _ i _ => n - (intOf i).toNat)
  case atStart => exact ⟨0, Nat.zero_le _, rfl, by rw [Nat.zero_mul]; exact own8_nil _ _, Below.refl _ _⟩
  case round =>
    obtain ⟨k, hk, rfl, hO⟩ := hrel
    by_cases hlt : k < n
    · have hlt' : (k : Int) < (n : Int) := by omega
      have hk0 : (0 : Int) ≤ (k : Int) := by omega
      obtain ⟨b, off, rfl, hb, hall⟩ := flat_open HR.out (by omega) (by decide)
      have hks : k * 64 + 64 ≤ bs.length := by have h_ := HL.out; omega
      have HK := Lib.hid hks
      have HA := Lib.hid hall
      have Hb := Lib.hid hb
      have O0 := Lib.hid hO.out.1
      have B0 := Lib.hid hO.out.2
      clear hall hb hks
      go_wp2
      refine AnyC.startB (fun _ => True) (by kernel_rfl) rfl ?_
      intro w0 hb0 hs0
      clear hs0
      have O0 := Lib.hid (own8_below O0.out hb0)
      have B0 := Lib.hid (B0.out.trans (hb0.mono B0.out.size))
      clear hb0
      apply AnyC.take (i := 0) rfl (by kernel_rfl) rfl
      · intro w' hC K hK
        go_wp2
        exact hK
      · rfl
      apply AnyC.take (i := 1) rfl (by kernel_rfl) rfl
      · intro w' hC K hK
        go_wp2
        exact hK
      · rfl
      apply AnyC.take (i := 2) rfl (by kernel_rfl) rfl
      · intro w' hC K hK
        go_wp2
        exact hK
      · rfl
      apply AnyC.take (i := 3) rfl (by kernel_rfl) rfl
      · intro w' hC K hK
        go_wp2
        exact hK
      · rfl
      apply AnyC.take (i := 4) rfl (by kernel_rfl) rfl
      · intro w' hC K hK
        go_wp2
        exact hK
      · rfl
      apply AnyC.take (i := 5) rfl (by kernel_rfl) rfl
      · intro w' hC K hK
        go_wp2
        exact hK
      · rfl
      apply AnyC.take (i := 7) rfl (by kernel_rfl) rfl
      · intro w' hC K hK
        go_wp2
        exact hK
      · rfl
      apply AnyC.take (i := 8) rfl (by kernel_rfl) rfl
      · intro w' hC K hK
        go_wp2
        exact hK
      · rfl
      apply AnyC.take (i := 9) rfl (by kernel_rfl) rfl
      · intro w' hC K hK
        go_wp2
        exact hK
      · rfl
      apply AnyC.take (i := 10) rfl (by kernel_rfl) rfl
      · intro w' hC K hK
        go_wp2
        exact hK
      · rfl
      apply AnyC.take (i := 11) rfl (by kernel_rfl) rfl
      · intro w' hC K hK
        go_wp2
        exact hK
      · rfl
      apply AnyC.solo (i := 6) rfl (by kernel_rfl) trivial
      refine app8 (l := bs.take (k * 64)) rfl rfl rfl rfl O0.out (seg_reads (p := k * 64) (by have h_ := HK.out; omega) (Nat.lt_of_lt_of_le Hb.out B0.out.size) (HA.out _ B0.out)) (by have h_ := HM.out; have h2_ := HK.out; simp; omega) B0.out.size ?_
      intro v1 w1 hown hg hx
      have B1 := Lib.hid (below_own8 B0.out O0.out hg)
      rw [seg_next' bs (q := k * 64 + 32) (by omega)] at hown
      have O1 := Lib.hid hown
      clear hown hg hx
      go_wp2
      refine ⟨rfl, ?_⟩
      apply AnyC.solo (i := 12) rfl (by kernel_rfl) trivial
      refine app8 (l := bs.take (k * 64 + 32)) rfl rfl rfl rfl O1.out (by rw [Nat.add_assoc]; exact seg_reads (p := k * 64 + 32) (by have h_ := HK.out; omega) (Nat.lt_of_lt_of_le Hb.out B1.out.size) (HA.out _ B1.out)) (by have h_ := HM.out; have h2_ := HK.out; simp; omega) B1.out.size ?_
      intro v2 w2 hown hg hx
      have B2 := Lib.hid (below_own8 B1.out O1.out hg)
      rw [seg_next' bs (q := k * 64 + 64) (by omega)] at hown
      have O2 := Lib.hid hown
      clear hown hg hx
      go_wp2
      refine ⟨rfl, ?_⟩
      apply AnyC.take (i := 13) rfl (by kernel_rfl) rfl
      · intro w' hC K hK
        go_wp2
        exact hK
      · rfl
      refine AnyC.done trivial (by kernel_rfl) ?_
      go_wp2
      go_roundw
      case rel => exact ⟨k + 1, hlt, by go_num, by rw [show (k + 1) * 64 = k * 64 + 64 from by omega]; exact O2.out, B2.out⟩
      case measure => simp [intOf]; omega
    · obtain rfl : k = n := by omega
      go_wp2
      go_ret
      have h1 := hO.out.1
      rw [List.take_of_length_le (by rw [HL.out]; exact Nat.le_refl _)] at h1
      exact ⟨_, rfl, h1, hO.out.2⟩
set_option maxRecDepth 100000 in
set_option maxHeartbeats 2000000 in
theorem rLinksBytes_any (A : Option Addr) (n c : Nat) (bs : List UInt8) (w : World) (hr : Reads w w.heap.size 96 A n (bvs bs)) (hm : bs.length ≤ 140737488355328) : Calls Try.prog 71 #[.slice A n c] w (BPost bs w) := by
  have hl : bs.length = n * 96 := by have := hr.1; rwa [bvs_length] at this
  have hnb : n ≤ 140737488355328 := by omega
  have HL := Lib.hid hl
  have HM := Lib.hid hm
  have HR := Lib.hid hr
  clear hl hm hr
  go_enter Try.func71, Try.ntmps71
  go_wp2
  go_loopw [3, 7] (fun v i wr => ∃ k : Nat, k ≤ n ∧ i = .int .i64 (k : Int) ∧ Hid (Own8 wr w.heap.size v (bs.take (k * 96)) ∧ Below w.heap.size w wr)) (fun _ i _ => n - (intOf i).toNat)
  case atStart => exact ⟨0, Nat.zero_le _, rfl, by rw [Nat.zero_mul]; exact own8_nil _ _, Below.refl _ _⟩
  case round =>
    obtain ⟨k, hk, rfl, hO⟩ := hrel
    by_cases hlt : k < n
    · have hlt' : (k : Int) < (n : Int) := by omega
      have hk0 : (0 : Int) ≤ (k : Int) := by omega
      obtain ⟨b, off, rfl, hb, hall⟩ := flat_open HR.out (by omega) (by decide)
      have hks : k * 96 + 96 ≤ bs.length := by have h_ := HL.out; omega
      have HK := Lib.hid hks
      have HA := Lib.hid hall
      have Hb := Lib.hid hb
      have O0 := Lib.hid hO.out.1
      have B0 := Lib.hid hO.out.2
      clear hall hb hks
      go_wp2
      refine AnyC.startB (fun _ => True) (by kernel_rfl) rfl ?_
      intro w0 hb0 hs0
      clear hs0
      have O0 := Lib.hid (own8_below O0.out hb0)
      have B0 := Lib.hid (B0.out.trans (hb0.mono B0.out.size))
      clear hb0
      apply AnyC.take (i := 0) rfl (by kernel_rfl) rfl
      · intro w' hC K hK
        go_wp2
        exact hK
      · rfl
      apply AnyC.take (i := 1) rfl (by kernel_rfl) rfl
      · intro w' hC K hK
        go_wp2
        exact hK
      · rfl
      apply AnyC.take (i := 2) rfl (by kernel_rfl) rfl
      · intro w' hC K hK
        go_wp2
        exact hK
      · rfl
      apply AnyC.take (i := 3) rfl (by kernel_rfl) rfl
      · intro w' hC K hK
        go_wp2
        exact hK
      · rfl
      apply AnyC.take (i := 4) rfl (by kernel_rfl) rfl
      · intro w' hC K hK
        go_wp2
        exact hK
      · rfl
      apply AnyC.take (i := 5) rfl (by kernel_rfl) rfl
      · intro w' hC K hK
        go_wp2
        exact hK
      · rfl
      apply AnyC.take (i := 7) rfl (by kernel_rfl) rfl
      · intro w' hC K hK
        go_wp2
        exact hK
      · rfl
      apply AnyC.take (i := 8) rfl (by kernel_rfl) rfl
      · intro w' hC K hK
        go_wp2
        exact hK
      · rfl
      apply AnyC.take (i := 9) rfl (by kernel_rfl) rfl
      · intro w' hC K hK
        go_wp2
        exact hK
      · rfl
      apply AnyC.take (i := 10) rfl (by kernel_rfl) rfl
      · intro w' hC K hK
        go_wp2
        exact hK
      · rfl
      apply AnyC.take (i := 11) rfl (by kernel_rfl) rfl
      · intro w' hC K hK
        go_wp2
        exact hK
      · rfl
      apply AnyC.take (i := 13) rfl (by kernel_rfl) rfl
      · intro w' hC K hK
        go_wp2
        exact hK
      · rfl
      apply AnyC.take (i := 14) rfl (by kernel_rfl) rfl
      · intro w' hC K hK
        go_wp2
        exact hK
      · rfl
      apply AnyC.take (i := 15) rfl (by kernel_rfl) rfl
      · intro w' hC K hK
        go_wp2
        exact hK
      · rfl
      apply AnyC.take (i := 16) rfl (by kernel_rfl) rfl
      · intro w' hC K hK
        go_wp2
        exact hK
      · rfl
      apply AnyC.take (i := 17) rfl (by kernel_rfl) rfl
      · intro w' hC K hK
        go_wp2
        exact hK
      · rfl
      apply AnyC.solo (i := 6) rfl (by kernel_rfl) trivial
      refine app8 (l := bs.take (k * 96)) rfl rfl rfl rfl O0.out (seg_reads (p := k * 96) (by have h_ := HK.out; omega) (Nat.lt_of_lt_of_le Hb.out B0.out.size) (HA.out _ B0.out)) (by have h_ := HM.out; have h2_ := HK.out; simp; omega) B0.out.size ?_
      intro v1 w1 hown hg hx
      have B1 := Lib.hid (below_own8 B0.out O0.out hg)
      rw [seg_next' bs (q := k * 96 + 32) (by omega)] at hown
      have O1 := Lib.hid hown
      clear hown hg hx
      go_wp2
      refine ⟨rfl, ?_⟩
      apply AnyC.solo (i := 12) rfl (by kernel_rfl) trivial
      refine app8 (l := bs.take (k * 96 + 32)) rfl rfl rfl rfl O1.out (by rw [Nat.add_assoc]; exact seg_reads (p := k * 96 + 32) (by have h_ := HK.out; omega) (Nat.lt_of_lt_of_le Hb.out B1.out.size) (HA.out _ B1.out)) (by have h_ := HM.out; have h2_ := HK.out; simp; omega) B1.out.size ?_
      intro v2 w2 hown hg hx
      have B2 := Lib.hid (below_own8 B1.out O1.out hg)
      rw [seg_next' bs (q := k * 96 + 64) (by omega)] at hown
      have O2 := Lib.hid hown
      clear hown hg hx
      go_wp2
      refine ⟨rfl, ?_⟩
      apply AnyC.solo (i := 18) rfl (by kernel_rfl) trivial
      refine app8 (l := bs.take (k * 96 + 64)) rfl rfl rfl rfl O2.out (by rw [Nat.add_assoc]; exact seg_reads (p := k * 96 + 64) (by have h_ := HK.out; omega) (Nat.lt_of_lt_of_le Hb.out B2.out.size) (HA.out _ B2.out)) (by have h_ := HM.out; have h2_ := HK.out; simp; omega) B2.out.size ?_
      intro v3 w3 hown hg hx
      have B3 := Lib.hid (below_own8 B2.out O2.out hg)
      rw [seg_next' bs (q := k * 96 + 96) (by omega)] at hown
      have O3 := Lib.hid hown
      clear hown hg hx
      go_wp2
      refine ⟨rfl, ?_⟩
      apply AnyC.take (i := 19) rfl (by kernel_rfl) rfl
      · intro w' hC K hK
        go_wp2
        exact hK
      · rfl
      refine AnyC.done trivial (by kernel_rfl) ?_
      go_wp2
      go_roundw
      case rel => exact ⟨k + 1, hlt, by go_num, by rw [show (k + 1) * 96 = k * 96 + 96 from by omega]; exact O3.out, B3.out⟩
      case measure => simp [intOf]; omega
    · obtain rfl : k = n := by omega
      go_wp2
      go_ret
      have h1 := hO.out.1
      rw [List.take_of_length_le (by rw [HL.out]; exact Nat.le_refl _)] at h1
      exact ⟨_, rfl, h1, hO.out.2⟩
end Go.Proofs.Ytbpgbihcihnieaa

namespace Go.Proofs.Ytbpgbihcihnieaa
open Go.RowKit
/-- A node. -/
structure NodeV where
  n : Int
  p : List UInt8
  h : List UInt8
structure NodeV.ok (v : NodeV) : Prop where
  n : -9223372036854775808 ≤ v.n ∧ v.n ≤ 9223372036854775807
  p : v.p.length = 32
  h : v.h.length = 32
def NodeV.vs (v : NodeV) : List Value := .int .i64 v.n :: (bvs v.p ++ bvs v.h)
def NodeV.cs (v : NodeV) : Array Value := v.vs.toArray
theorem node_size {v : NodeV} (h : v.ok) : v.cs.size = 65 := by simp [NodeV.cs, NodeV.vs, bvs_length, h.p, h.h]
theorem node_one {v : NodeV} : (v.cs.all fun x => x.oneCell') = true := by
  refine Array.all_eq_true'.2 fun x hx => ?_
  simp only [NodeV.cs, NodeV.vs, List.mem_toArray, List.mem_cons, List.mem_append] at hx
  rcases hx with rfl | h | h
  · rfl
  all_goals exact bvs_one _ x h
def NodeV.good (v : NodeV) : Bool := decide (0 ≤ v.n) && decide (v.n ≤ 256)
def nodeB (v : NodeV) : List UInt8 := [UInt8.ofNat (v.n.toNat / 256), UInt8.ofNat v.n.toNat] ++ (v.p ++ v.h)
theorem nodeB_length {v : NodeV} (h : v.ok) : (nodeB v).length = 66 := by simp [nodeB, h.p, h.h]
theorem node_parts {w : World} {b : Nat} {v : NodeV} (hv : v.ok) {t : TypeId} {f : Nat × Nat} (h : w.heap[b]? = some (.cells v.cs t f)) : w.cell? ⟨b, 0, none⟩ = some (.int .i64 v.n) ∧ Itm w (.slice (some ⟨b, 1, none⟩) 32 32) v.p ∧ Itm w (.slice (some ⟨b, 33, none⟩) 32 32) v.h := by
  have e : ∀ j, v.cs[j + 1]? = (bvs v.p ++ bvs v.h)[j]? := fun j => by
    unfold NodeV.cs NodeV.vs
    simp
  refine ⟨by rw [cell_of_row w b _ _ _ _ h]; rfl, Itm.at_ h hv.p fun j hj => ?_, Itm.at_ h hv.h fun j hj => ?_⟩
  · rw [Nat.add_comm 1 j, e, List.getElem?_append_left (by simp [bvs_length, hv.p]; exact hj)]
  · rw [show 33 + j = (j + 32) + 1 from by omega, e, List.getElem?_append_right (by simp [bvs_length, hv.p])]
    congr 1; simp [bvs_length, hv.p]
theorem Itm.rd {w : World} {b off n : Nat} {l : List UInt8} (h : Itm w (.slice (some ⟨b, off, none⟩) n n) l) : Reads w w.heap.size 1 (some ⟨b, off, none⟩) n (bvs l) := by
  obtain ⟨A, c, he, hc, hr⟩ := h
  cases he
  exact hr
theorem two_cells {n : Nat} (h : n ≤ 256) : bvs [UInt8.ofNat (n / 256), UInt8.ofNat n] = [.int .u8 ((n : Int) / 256), .int .u8 ((n : Int) % 256)] := by
  simp only [bvs, List.map_cons, List.map_nil, bv, UInt8.toNat_ofNat']
  have h1 : n / 256 % 2 ^ 8 = n / 256 := by omega
  rw [h1]
  simp
set_option maxRecDepth 100000 in
set_option maxHeartbeats 1000000 in
theorem NodeBytes_any (v : NodeV) (hv : v.ok) (hg : v.good = true) (w : World) : Calls Try.prog 80 #[.agg v.cs] w (BPost (nodeB v) w) := by
  simp only [NodeV.good, Bool.and_eq_true, decide_eq_true_eq] at hg
  obtain ⟨g0, g1⟩ := hg
  have F : Hid (Below w.heap.size w (w.alloc (.cells v.cs 118)) ∧ (w.alloc (.cells v.cs 118)).heap[w.heap.size]? = some (.cells v.cs 118 (0, 0))) := ⟨(Below.refl _ _).alloc (Nat.le_refl _) _, heap_alloc_new w _⟩
  have Hv := Lib.hid hv
  obtain ⟨n, hn⟩ : ∃ n : Nat, v.n = (n : Int) := ⟨v.n.toNat, by omega⟩
  have hn256 : (n : Int) ≤ 256 := by omega
  have HN := Lib.hid hn
  have HN2 : Hid (n ≤ 256) := by show _ ≤ _; omega
  obtain ⟨cs, hcs⟩ : ∃ cs, cs = v.cs := ⟨_, rfl⟩
  have c0 : (w.alloc (.cells v.cs 118)).cell? ⟨w.heap.size, 0, none⟩ = some (.int .i64 (n : Int)) := by rw [(node_parts hv F.out.2).1, hn]
  rw [← hcs] at F c0 ⊢
  have Hcs := Lib.hid hcs
  clear hv g0 g1 hn hcs
  go_enter Try.func80, Try.ntmps80
  go_wp2_with (first
    | (at_make; refine make8 rfl rfl rfl rfl (n := 66) rfl (by omega) F.out.1.size ?_; intro w1 hown1 hg1; have hb1 := below_none (Below.refl _ _) hg1; rw [show (w.alloc (.cells cs 118)).heap.size = w.heap.size + 1 from by simp] at hown1; have O1 := Lib.hid hown1; have B1 := Lib.hid (F.out.1.trans (hb1.mono F.out.1.size)); have R1 := Lib.hid (heap_below F.out.2 hb1); have c1 := (hb1.cell (p := ⟨w.heap.size, 0, none⟩) (by simp)).trans c0; clear hown1 hg1 hb1)
    | (at_builtin; go_must (refine app8 (base := w.heap.size) (l := []) rfl rfl rfl rfl (O1.out.alloc _) (news := [UInt8.ofNat (n / 256), UInt8.ofNat n]) (by rw [two_cells HN2.out]; exact reads_new _ _ _ _ rfl) (by simp) (by have h_ := B1.out.size; simp; omega) ?_; intro v2 w2 hown hg hx; have B2 := Lib.hid (below_own8 (B1.out.alloc B1.out.size _) (O1.out.alloc _) hg); have NE1 : Hid ((Value.slice (some ⟨w.heap.size + 1, 0, none⟩) 0 66).ownBlock ≠ some w.heap.size) := (by show some (w.heap.size + 1) ≠ _; simp); have R2 := Lib.hid (own_other (heap_below R1.out ((Below.refl _ w1).alloc (Nat.le_refl _) _)) hg NE1.out); have NE2 : Hid (v2.ownBlock ≠ some w.heap.size) := own_ne_next hx NE1.out (Nat.lt_of_lt_of_le (lt_of_heap R1.out) (by simp)); have O2 := Lib.hid hown; clear hown hg hx))) 
  refine AnyC.startB (fun _ => True) (by kernel_rfl) rfl ?_
  intro w3 hb3 hs3
  clear hs3
  have O3 := Lib.hid (own8_below O2.out hb3)
  have B3 := Lib.hid (B2.out.trans (hb3.mono B2.out.size))
  have R3 := Lib.hid (heap_below R2.out hb3)
  clear hb3
  apply AnyC.take (i := 0) rfl (by kernel_rfl) rfl
  · intro w' hC K hK
    go_wp2
    exact hK
  · rfl
  apply AnyC.take (i := 1) rfl (by kernel_rfl) rfl
  · intro w' hC K hK
    go_wp2
    exact hK
  · rfl
  apply AnyC.take (i := 2) rfl (by kernel_rfl) rfl
  · intro w' hC K hK
    go_wp2
    exact hK
  · rfl
  apply AnyC.take (i := 4) rfl (by kernel_rfl) rfl
  · intro w' hC K hK
    go_wp2
    exact hK
  · rfl
  apply AnyC.take (i := 5) rfl (by kernel_rfl) rfl
  · intro w' hC K hK
    go_wp2
    exact hK
  · rfl
  apply AnyC.solo (i := 3) rfl (by kernel_rfl) trivial
  refine app8 (l := [UInt8.ofNat (n / 256), UInt8.ofNat n]) rfl rfl rfl rfl O3.out (node_parts Hv.out (by rw [R3.out, Hcs.out])).2.1.rd (by simp) B3.out.size ?_
  intro v4 w4 hown hg hx
  have R4 := Lib.hid (own_other R3.out hg NE2.out)
  have B4 := Lib.hid (below_own8 B3.out O3.out hg)
  have O4 := Lib.hid hown
  clear hown hg hx
  go_wp2
  refine ⟨rfl, ?_⟩
  apply AnyC.solo (i := 6) rfl (by kernel_rfl) trivial
  refine app8 (l := [UInt8.ofNat (n / 256), UInt8.ofNat n] ++ v.p) rfl rfl rfl rfl O4.out (node_parts Hv.out (by rw [R4.out, Hcs.out])).2.2.rd (by simp [Hv.out.p]) B4.out.size ?_
  intro v5 w5 hown hg hx
  have B5 := Lib.hid (below_own8 B4.out O4.out hg)
  have O5 : Hid (Own8 w5 w.heap.size v5 (nodeB v)) := by
    show Own8 _ _ _ _
    unfold nodeB
    rw [HN.out, Int.toNat_natCast, ← List.append_assoc]
    exact hown
  clear hown hg hx
  go_wp2
  refine ⟨rfl, ?_⟩
  apply AnyC.take (i := 7) rfl (by kernel_rfl) rfl
  · intro w' hC K hK
    go_wp2
    exact hK
  · rfl
  refine AnyC.done trivial (by kernel_rfl) ?_
  go_wp2
  go_ret
  exact ⟨_, rfl, O5.out, B5.out⟩
end Go.Proofs.Ytbpgbihcihnieaa

namespace Go.Proofs.Ytbpgbihcihnieaa
open Go.RowKit
theorem flat_take_succ (ls : List (List UInt8)) (k : Nat) (h : k < ls.length) : (ls.take (k + 1)).flatten = (ls.take k).flatten ++ ls[k] := by
  rw [List.take_succ_eq_append_getElem h, List.flatten_append]; simp
theorem flat_take_le (ls : List (List UInt8)) (k : Nat) : (ls.take k).flatten.length ≤ ls.flatten.length := by
  conv => rhs; rw [← List.take_append_drop k ls, List.flatten_append, List.length_append]
  omega
set_option maxRecDepth 100000 in
set_option maxHeartbeats 1000000 in
theorem Join_any (A : Option Addr) (n c : Nat) (ls : List (List UInt8)) (w : World) (hl : Lists w w.heap.size A ls) (hn : ls.length = n) (hnb : n ≤ 140737488355328) (hm : ls.flatten.length ≤ 140737488355328) : Calls Try.prog 84 #[.slice A n c] w (BPost ls.flatten w) := by
  have HL := Lib.hid hl
  have HN := Lib.hid hn
  have HM := Lib.hid hm
  clear hl hn hm
  go_enter Try.func84, Try.ntmps84
  go_wp2
  go_loopw [3, 7] (fun v i wr => ∃ k : Nat, k ≤ n ∧ i = .int .i64 (k : Int) ∧ Hid (Own8 wr w.heap.size v (ls.take k).flatten ∧ Below w.heap.size w wr)) (fun _ i _ => n - (intOf i).toNat)
  case atStart => exact ⟨0, Nat.zero_le _, rfl, own8_nil _ _, Below.refl _ _⟩
  case round =>
    obtain ⟨k, hk, rfl, hO⟩ := hrel
    by_cases hlt : k < n
    · have hlt' : (k : Int) < (n : Int) := by omega
      have hk0 : (0 : Int) ≤ (k : Int) := by omega
      have hkl : k < ls.length := by rw [HN.out]; exact hlt
      obtain ⟨l, b, off, A', c', hlk, rfl, hb, hcell, hc', hr⟩ := HL.out.at_b hO.out.2 k hkl
      have RG := Lib.hid (hr.keep fun _ hp => hO.out.2.cell hp)
      have NX : Hid ((ls.take (k + 1)).flatten = (ls.take k).flatten ++ l) := by show _ = _; rw [flat_take_succ ls k hkl, hlk.out]
      have LE := Lib.hid (flat_take_le ls (k + 1))
      clear hr hc' hlk hkl
      go_wp2_with (at_builtin; go_must (refine app8 (l := (ls.take k).flatten) (news := l) rfl rfl rfl rfl hO.out.1 RG.out (by have h_ := HM.out; have h2_ := LE.out; rw [NX.out, List.length_append] at h2_; omega) hO.out.2.size ?_; intro v4 w4 hown4 hg4 hx4; have hb4 := below_own8 hO.out.2 hO.out.1 hg4; have G : Hid (Own8 w4 w.heap.size v4 (ls.take (k + 1)).flatten ∧ Below w.heap.size w w4) := ⟨by rw [NX.out]; exact hown4, hb4⟩; clear hg4 hx4 hown4 hb4))
      go_roundw
      case rel => exact ⟨k + 1, hlt, by go_num, G.out⟩
      case measure => simp [intOf]; omega
    · obtain rfl : k = n := by omega
      go_wp2
      go_ret
      have h1 := hO.out.1
      rw [List.take_of_length_le (by rw [HN.out]; exact Nat.le_refl _)] at h1
      exact ⟨_, rfl, h1, hO.out.2⟩
set_option maxRecDepth 100000 in
set_option maxHeartbeats 1000000 in
theorem rNodeBytes_any (v : NodeV) (hv : v.ok) (hg : v.good = true) (w : World) : Calls Try.prog 81 #[.agg v.cs] w (BPost (nodeB v) w) := by
  simp only [NodeV.good, Bool.and_eq_true, decide_eq_true_eq] at hg
  obtain ⟨g0, g1⟩ := hg
  have F : Hid (Below w.heap.size w (w.alloc (.cells v.cs 118)) ∧ (w.alloc (.cells v.cs 118)).heap[w.heap.size]? = some (.cells v.cs 118 (0, 0))) := ⟨(Below.refl _ _).alloc (Nat.le_refl _) _, heap_alloc_new w _⟩
  have Hv := Lib.hid hv
  obtain ⟨n, hn⟩ : ∃ n : Nat, v.n = (n : Int) := ⟨v.n.toNat, by omega⟩
  have hn256 : (n : Int) ≤ 256 := by omega
  have HN := Lib.hid hn
  have HN2 : Hid (n ≤ 256) := by show _ ≤ _; omega
  obtain ⟨cs, hcs⟩ : ∃ cs, cs = v.cs := ⟨_, rfl⟩
  rw [← hcs] at F ⊢
  have Hcs := Lib.hid hcs
  clear hv g0 g1 hn hcs
  go_enter Try.func81, Try.ntmps81
  go_wp2
  refine AnyC.startB (fun w' => w'.heap[w.heap.size]? = some (.cells cs 118 (0, 0))) (by kernel_rfl) rfl ?_
  intro w4 hb4 hs4
  clear hs4
  have B4 : Hid (Below w.heap.size w w4) := F.out.1.trans (hb4.mono F.out.1.size)
  have R4 : Hid (w4.heap[w.heap.size]? = some (.cells cs 118 (0, 0))) := heap_below F.out.2 hb4
  clear hb4 F
  apply AnyC.take (i := 0) rfl (by kernel_rfl) rfl
  · intro w' hC K hK
    go_wp2
    exact hK
  · rfl
  apply AnyC.take (i := 1) rfl (by kernel_rfl) rfl
  · intro w' hC K hK
    have c0 : w'.cell? ⟨w.heap.size, 0, none⟩ = some (.int .i64 (n : Int)) := by rw [(node_parts Hv.out (by rw [hC, Hcs.out])).1, HN.out]
    go_wp2
    exact hK
  · rfl
  apply AnyC.take (i := 2) rfl (by kernel_rfl) rfl
  · intro w' hC K hK
    go_wp2
    exact hK
  · rfl
  apply AnyC.take (i := 3) rfl (by kernel_rfl) rfl
  · intro w' hC K hK
    go_wp2
    exact hK
  · rfl
  apply AnyC.take (i := 4) rfl (by kernel_rfl) rfl
  · intro w' hC K hK
    go_wp2
    exact hK
  · rfl
  apply AnyC.take (i := 5) rfl (by kernel_rfl) rfl
  · intro w' hC K hK
    have c0 : w'.cell? ⟨w.heap.size, 0, none⟩ = some (.int .i64 (n : Int)) := by rw [(node_parts Hv.out (by rw [hC, Hcs.out])).1, HN.out]
    go_wp2
    exact hK
  · rfl
  apply AnyC.take (i := 6) rfl (by kernel_rfl) rfl
  · intro w' hC K hK
    go_wp2
    exact hK
  · rfl
  apply AnyC.take (i := 8) rfl (by kernel_rfl) rfl
  · intro w' hC K hK
    go_wp2
    exact hK
  · rfl
  apply AnyC.take (i := 9) rfl (by kernel_rfl) rfl
  · intro w' hC K hK
    go_wp2
    exact hK
  · rfl
  apply AnyC.take (i := 10) rfl (by kernel_rfl) rfl
  · intro w' hC K hK
    go_wp2
    exact hK
  · rfl
  apply AnyC.take (i := 11) rfl (by kernel_rfl) rfl
  · intro w' hC K hK
    go_wp2
    exact hK
  · rfl
  apply AnyC.solo (i := 7) rfl (by kernel_rfl) R4.out
  go_wp2
  refine ⟨rfl, ?_⟩
  obtain ⟨w5, hw⟩ : ∃ w5, w5 = w4.alloc (.cells #[.int .u8 ((n : Int) / 256), .int .u8 ((n : Int) % 256)] 5) := ⟨_, rfl⟩
  rw [← hw]
  have hb : Below w4.heap.size w4 w5 := by rw [hw]; exact (Below.refl _ _).alloc (Nat.le_refl _) _
  have I5 : Hid (Itm w5 (.slice (some ⟨w4.heap.size, 0, none⟩) 2 2) [UInt8.ofNat (n / 256), UInt8.ofNat n]) := by
    show Itm _ _ _
    rw [hw]
    exact Itm.row (heap_alloc_new w4 _) (by rw [two_cells HN2.out]) rfl
  have B5 := Lib.hid (B4.out.trans (hb.mono B4.out.size))
  have R5 := Lib.hid (heap_below R4.out hb)
  clear hb hw
  apply AnyC.solo (i := 12) rfl (by kernel_rfl) R5.out
  go_wp2
  refine ⟨rfl, ?_⟩
  have NP := Lib.hid (node_parts Hv.out (by rw [R5.out, Hcs.out]))
  have LS := Lib.hid (Itms.lists (.cons I5.out (.cons NP.out.2.1 (.cons NP.out.2.2 .nil))) 24)
  have BL : Hid (∀ o, Below w.heap.size w (w5.alloc o) ∧ Below w5.heap.size w5 (w5.alloc o)) := fun o => ⟨B5.out.alloc B5.out.size _, (Below.refl _ _).alloc (Nat.le_refl _) _⟩
  apply AnyC.solo (i := 13) rfl (by kernel_rfl) (heap_below R5.out (BL.out _).2)
  go_wp2_with (go_at_call 84; go_must (refine (Join_any (some ⟨w5.heap.size, 0, none⟩) 3 3 [[UInt8.ofNat (n / 256), UInt8.ofNat n], v.p, v.h] _ LS.out rfl (by decide) (by simp [Hv.out.p, Hv.out.h])).mono ?_; rintro e w6 ⟨u, rfl, ho, hb⟩; have O6 := Lib.hid (own8_base ho (BL.out _).1.size); have B6 := Lib.hid ((BL.out _).1.trans (hb.mono (BL.out _).1.size)); have R6 := Lib.hid (heap_below (heap_below R5.out (BL.out _).2) hb); clear ho hb))
  refine ⟨rfl, ?_⟩
  apply AnyC.take (i := 14) rfl (by kernel_rfl) rfl
  · intro w' hC K hK
    go_wp2
    exact hK
  · rfl
  refine AnyC.done R6.out (by kernel_rfl) ?_
  go_wp2
  go_ret
  refine ⟨_, rfl, ?_, B6.out⟩
  have h1 := O6.out
  unfold nodeB
  rw [HN.out, Int.toNat_natCast]
  simpa using h1
end Go.Proofs.Ytbpgbihcihnieaa

namespace Go.Proofs.Ytbpgbihcihnieaa
open Go.RowKit
def nodesV (ns : List NodeV) : List Value := ns.flatMap NodeV.vs
def nodesG (ns : List NodeV) : Bool := ns.all NodeV.good
def nodesB (ns : List NodeV) : List UInt8 := if nodesG ns then ns.flatMap nodeB else []
def nodesE (ns : List NodeV) : Int := if nodesG ns then 0 else 1
theorem nodesE_no {ns : List NodeV} (h : nodesG ns = false) : nodesE ns = 1 := by simp [nodesE, h]
theorem nodesE_yes {ns : List NodeV} (h : nodesG ns = true) : nodesE ns = 0 := by simp [nodesE, h]
/-- A slice of nodes. -/
def Nds (w : World) (B : Nat) (A : Option Addr) (ns : List NodeV) : Prop := (∀ v ∈ ns, v.ok) ∧ Reads w B 65 A ns.length (nodesV ns)
theorem vs_length {v : NodeV} (h : v.ok) : v.vs.length = 65 := by simp [NodeV.vs, bvs_length, h.p, h.h]
theorem nodesV_at : ∀ {ns : List NodeV}, (∀ v ∈ ns, v.ok) → ∀ (k : Nat) (hk : k < ns.length) (j : Nat), j < 65 → (nodesV ns)[k * 65 + j]? = (ns[k]).vs[j]?
  | [], _, k, hk, _, _ => by simp at hk
  | v :: ns, h, k, hk, j, hj => by
    have hv : v.vs.length = 65 := vs_length (h v (by simp))
    show (v.vs ++ nodesV ns)[k * 65 + j]? = _
    cases k with
    | zero => rw [List.getElem?_append_left (by omega)]; simp
    | succ k =>
      rw [List.getElem?_append_right (by omega), hv, show (k + 1) * 65 + j - 65 = k * 65 + j from by omega]
      exact nodesV_at (fun u hu => h u (List.mem_cons_of_mem _ hu)) k (by simpa using hk) j hj
theorem Nds.open_ {w : World} {B : Nat} {A : Option Addr} {ns : List NodeV} (h : Nds w B A ns) (h0 : 0 < ns.length) : ∃ b off, A = some ⟨b, off, none⟩ ∧ b < B ∧ ∀ w', Below B w w' → ∀ (k : Nat) (hk : k < ns.length), w'.rangeAt b (off + k * 65) (ns[k]).cs.toList := by
  obtain ⟨hok, hl, hr⟩ := h
  obtain ⟨⟨b, off, spot⟩, rfl, hb, hc⟩ := hr h0
  have hc0 := hc 0 _ (List.getElem?_eq_getElem (show 0 < (nodesV ns).length by omega))
  have hsp : spot = none := by simpa [Addr.add] using World.cell?_spot hc0
  subst hsp
  refine ⟨b, off, rfl, hb, fun w' hb' k hk j u hu => ?_⟩
  have hj : j < 65 := by
    rcases Nat.lt_or_ge j 65 with h' | h'
    · exact h'
    · rw [List.getElem?_eq_none (by rw [Array.length_toList, node_size (hok _ (List.getElem_mem hk))]; exact h')] at hu; cases hu
  have h1 := hc (k * 65 + j) u (by rw [nodesV_at hok k hk j hj]; exact hu)
  rw [add_none] at h1
  rw [Nat.add_assoc]
  exact (hb'.cell (p := ⟨b, off + (k * 65 + j), none⟩) hb).trans h1
theorem flatB_succ (ns : List NodeV) (k : Nat) (h : k < ns.length) : (ns.take (k + 1)).flatMap nodeB = (ns.take k).flatMap nodeB ++ nodeB ns[k] := by
  rw [List.take_succ_eq_append_getElem h, List.flatMap_append]; simp
theorem flatB_length : ∀ {ns : List NodeV}, (∀ v ∈ ns, v.ok) → (ns.flatMap nodeB).length = 66 * ns.length
  | [], _ => rfl
  | v :: ns, h => by
    rw [List.flatMap_cons, List.length_append, nodeB_length (h v (by simp)), flatB_length (fun u hu => h u (List.mem_cons_of_mem _ hu)), List.length_cons]
    omega
theorem nodesG_no {ns : List NodeV} {k : Nat} (hk : k < ns.length) (h : (ns[k]).good = false) : nodesG ns = false := by
  unfold nodesG
  rw [List.all_eq_false]
  exact ⟨_, List.getElem_mem hk, by rw [h]; decide⟩
theorem nodesG_yes {ns : List NodeV} (h : ∀ (k : Nat) (hk : k < ns.length), (ns[k]).good = true) : nodesG ns = true := by
  unfold nodesG
  rw [List.all_eq_true]
  intro v hv
  obtain ⟨k, hk, rfl⟩ := List.mem_iff_getElem.1 hv
  exact h k hk
theorem zeroNode : ∃ zs : Array Value, zs.size = 65 ∧ ∀ w, (zeroValue 118).run Try.prog w = .ok (.agg zs) w := ⟨(NodeV.mk 0 (List.replicate 32 0) (List.replicate 32 0)).cs, by decide, fun w => by kernel_rfl⟩
def NodesPost (ns : List NodeV) (r : Value) (w : World) (e : Ending) (w' : World) : Prop := ∃ v, e = .returned (.tuple #[v, r]) ∧ Own8 w' w.heap.size v (nodesB ns) ∧ Below w.heap.size w w'
set_option maxRecDepth 100000 in
set_option maxHeartbeats 2000000 in
theorem nodes_any (A : Option Addr) (n c : Nat) (ns : List NodeV) (w : World) (hd : Nds w w.heap.size A ns) (hn : ns.length = n) (hm : n ≤ 1954687338211) : Calls Try.prog 57 #[.slice A n c] w (NodesPost ns (.int .i64 (nodesE ns)) w) := by
  obtain ⟨zs, hzz, hzl⟩ := zeroNode
  have ZS := Lib.hid hzz
  have HD := Lib.hid hd
  have HN := Lib.hid hn
  have HM := Lib.hid hm
  have hnb : (n : Int) ≤ 1954687338211 := by omega
  clear hzz hd hn hm
  go_enter Try.func57, Try.ntmps57
  go_wp2
  go_loopw [4, 9] (fun v i wr => ∃ k : Nat, k ≤ n ∧ i = .int .i64 (k : Int) ∧ Hid (Own8 wr w.heap.size v ((ns.take k).flatMap nodeB) ∧ Below w.heap.size w wr ∧ ∀ (j : Nat) (hj : j < ns.length), j < k → (ns[j]).good = true)) (fun _ i _ => n - (intOf i).toNat)
  case atStart => exact ⟨0, Nat.zero_le _, rfl, own8_nil _ _, Below.refl _ _, fun j _ h => absurd h (Nat.not_lt_zero _)⟩
  case round =>
    obtain ⟨k, hk, rfl, hO⟩ := hrel
    by_cases hlt : k < n
    · have hlt' : (k : Int) < (n : Int) := by omega
      have hk0 : (0 : Int) ≤ (k : Int) := by omega
      have hkl : k < ns.length := by rw [HN.out]; exact hlt
      obtain ⟨b, off, rfl, hb, hall⟩ := HD.out.open_ (by omega)
      obtain ⟨v, hv⟩ : ∃ v, v = ns[k] := ⟨_, rfl⟩
      have hvok : v.ok := by rw [hv]; exact HD.out.1 _ (List.getElem_mem hkl)
      obtain ⟨pc, hpc⟩ : ∃ pc : Array Value, pc = v.cs := ⟨_, rfl⟩
      have HP := Lib.hid hpc
      have PZ : Hid (pc.size = 65) := by show _ = _; rw [hpc]; exact node_size hvok
      have RG : Hid (wr.rangeAt b (off + k * 65) pc.toList) := by show World.rangeAt _ _ _ _; rw [hpc, hv]; exact hall wr hO.out.2.1 k hkl
      have RN := Lib.hid (row_new wr zs pc 118)
      have AN := Lib.hid (heap_alloc_new wr (.cells zs 118))
      have O0 := Lib.hid (own8_below hO.out.1 RN.out.1)
      have B0 := Lib.hid (hO.out.2.1.trans (RN.out.1.mono hO.out.2.1.size))
      have P0 := Lib.hid RN.out.2.1
      have VOK := Lib.hid hvok
      have NX : Hid ((ns.take (k + 1)).flatMap nodeB = (ns.take k).flatMap nodeB ++ nodeB v) := by show _ = _; rw [flatB_succ ns k hkl, hv]
      have LE : Hid (((ns.take k).flatMap nodeB).length ≤ 66 * n) := by
        show _ ≤ _
        rw [flatB_length (fun u hu => HD.out.1 u (List.mem_of_mem_take hu)), List.length_take, HN.out]
        omega
      have HV : Hid (∀ hj : k < ns.length, ns[k] = v) := fun _ => hv.symm
      have HKL := Lib.hid hlt
      have c0 : ((wr.alloc (.cells zs 118)).setRow wr.heap.size pc).cell? ⟨wr.heap.size, 0, none⟩ = some (.int .i64 v.n) := (node_parts hvok (by rw [P0.out, hpc])).1
      clear hpc hall hb hv hvok hkl RN
      by_cases hg : v.good = true
      · have hg2 := hg
        simp only [NodeV.good, Bool.and_eq_true, decide_eq_true_eq] at hg2
        obtain ⟨g0, g1⟩ := hg2
        have HG := Lib.hid hg
        clear hg
        go_wp2_with (first
          | (refine wpList_load_arr rfl _ _ rfl b (off + k * 65) rfl pc _ (by with_reducible exact RG.out) Try.underlying118 rfl (by rw [PZ.out]; kernel_rfl) ?_)
          | (refine wpList_load_arr rfl _ _ rfl wr.heap.size 0 rfl pc _ (by with_reducible exact range_row P0.out) Try.underlying118 rfl (by rw [PZ.out]; kernel_rfl) ?_)
          | (refine wpList_store_row rfl _ _ _ rfl wr.heap.size pc rfl rfl 118 zs (by with_reducible exact AN.out) (by rw [PZ.out]; kernel_rfl) (by rw [PZ.out, ZS.out]) (by rw [HP.out]; exact node_one) ?_)
          | (go_at_call 80; go_must (rw [HP.out]; refine (NodeBytes_any v VOK.out HG.out _).mono ?_; rw [← HP.out]; rintro e w4 ⟨u, rfl, ho, hb⟩; obtain ⟨A4, c4, rfl, hc4, hr4⟩ := own8_form ho; have RD := Lib.hid hr4; have O4 := Lib.hid (own8_below O0.out hb); have B4 := Lib.hid (B0.out.trans (hb.mono B0.out.size)); clear ho hb hc4 hr4))
          | (at_builtin; go_must (refine app8 (l := (ns.take k).flatMap nodeB) (news := nodeB v) rfl rfl rfl rfl O4.out RD.out (by have h_ := LE.out; have h2_ := HM.out; rw [nodeB_length VOK.out]; omega) B4.out.size ?_; intro v5 w5 hown hg5 hx; have hb5 := below_own8 B4.out O4.out hg5; have G : Hid (Own8 w5 w.heap.size v5 ((ns.take (k + 1)).flatMap nodeB) ∧ Below w.heap.size w w5) := ⟨by rw [NX.out]; exact hown, hb5⟩; clear hown hg5 hx hb5)))
        go_roundw
        case rel => exact ⟨k + 1, HKL.out, by go_num, G.out.1, G.out.2, fun j hj hlt => by
          rcases Nat.lt_or_ge j k with h' | h'
          · exact hO.out.2.2 j hj h'
          · obtain rfl : j = k := by omega
            rw [HV.out hj]; exact HG.out⟩
        case measure => simp [intOf]; omega
      · have hgf : v.good = false := by simpa using hg
        have HG : Hid (nodesG ns = false) := nodesG_no (k := k) (by rw [HN.out]; exact hlt) (by rw [HV.out]; exact hgf)
        have hor : v.n < 0 ∨ (¬ v.n < 0 ∧ 256 < v.n) := by
          simp only [NodeV.good, Bool.and_eq_false_iff, decide_eq_false_iff_not] at hgf
          omega
        clear hg hgf
        rcases hor with hneg | ⟨hpos, hbig⟩
        · go_wp2_with (first
            | (refine wpList_load_arr rfl _ _ rfl b (off + k * 65) rfl pc _ (by with_reducible exact RG.out) Try.underlying118 rfl (by rw [PZ.out]; kernel_rfl) ?_)
            | (refine wpList_store_row rfl _ _ _ rfl wr.heap.size pc rfl rfl 118 zs (by with_reducible exact AN.out) (by rw [PZ.out]; kernel_rfl) (by rw [PZ.out, ZS.out]) (by rw [HP.out]; exact node_one) ?_))
          go_ret2
          exact ⟨.slice none 0 0, by rw [nodesE_no HG.out]; rfl, by unfold nodesB; rw [HG.out]; exact own8_nil _ _, B0.out⟩
        · go_wp2_with (first
            | (refine wpList_load_arr rfl _ _ rfl b (off + k * 65) rfl pc _ (by with_reducible exact RG.out) Try.underlying118 rfl (by rw [PZ.out]; kernel_rfl) ?_)
            | (refine wpList_store_row rfl _ _ _ rfl wr.heap.size pc rfl rfl 118 zs (by with_reducible exact AN.out) (by rw [PZ.out]; kernel_rfl) (by rw [PZ.out, ZS.out]) (by rw [HP.out]; exact node_one) ?_))
          go_ret2
          exact ⟨.slice none 0 0, by rw [nodesE_no HG.out]; rfl, by unfold nodesB; rw [HG.out]; exact own8_nil _ _, B0.out⟩
    · obtain rfl : k = n := by omega
      have HG : Hid (nodesG ns = true) := nodesG_yes fun j hj => hO.out.2.2 j hj (by rw [← HN.out]; exact hj)
      go_wp2
      go_ret2
      have h1 := hO.out.1
      rw [List.take_of_length_le (by rw [HN.out]; exact Nat.le_refl _)] at h1
      rw [nodesE_yes HG.out]
      exact ⟨_, rfl, by unfold nodesB; rw [HG.out]; exact h1, hO.out.2.1⟩
set_option maxRecDepth 100000 in
set_option maxHeartbeats 2000000 in
theorem rnodes_any (A : Option Addr) (n c : Nat) (ns : List NodeV) (w : World) (hd : Nds w w.heap.size A ns) (hn : ns.length = n) (hm : n ≤ 1954687338211) : Calls Try.prog 59 #[.slice A n c] w (NodesPost ns (.bool (nodesG ns)) w) := by
  have HD := Lib.hid hd
  have HN := Lib.hid hn
  have HM := Lib.hid hm
  have hnb : (n : Int) ≤ 1954687338211 := by omega
  clear hd hn hm
  go_enter Try.func59, Try.ntmps59
  go_wp2
  go_loopw [4, 8] (fun v i wr => ∃ k : Nat, k ≤ n ∧ i = .int .i64 (k : Int) ∧ Hid (Own8 wr w.heap.size v ((ns.take k).flatMap nodeB) ∧ Below w.heap.size w wr ∧ ∀ (j : Nat) (hj : j < ns.length), j < k → (ns[j]).good = true)) (fun _ i _ => n - (intOf i).toNat)
  case atStart => exact ⟨0, Nat.zero_le _, rfl, own8_nil _ _, Below.refl _ _, fun j _ h => absurd h (Nat.not_lt_zero _)⟩
  case round =>
    obtain ⟨k, hk, rfl, hO⟩ := hrel
    by_cases hlt : k < n
    · have hlt' : (k : Int) < (n : Int) := by omega
      have hk0 : (0 : Int) ≤ (k : Int) := by omega
      have hkl : k < ns.length := by rw [HN.out]; exact hlt
      obtain ⟨b, off, rfl, hb, hall⟩ := HD.out.open_ (by omega)
      obtain ⟨v, hv⟩ : ∃ v, v = ns[k] := ⟨_, rfl⟩
      have hvok : v.ok := by rw [hv]; exact HD.out.1 _ (List.getElem_mem hkl)
      obtain ⟨pc, hpc⟩ : ∃ pc : Array Value, pc = v.cs := ⟨_, rfl⟩
      have HP := Lib.hid hpc
      have PZ : Hid (pc.size = 65) := by show _ = _; rw [hpc]; exact node_size hvok
      have RG : Hid (wr.rangeAt b (off + k * 65) pc.toList) := by show World.rangeAt _ _ _ _; rw [hpc, hv]; exact hall wr hO.out.2.1 k hkl
      have O0 := Lib.hid hO.out.1
      have B0 := Lib.hid hO.out.2.1
      have VOK := Lib.hid hvok
      have NX : Hid ((ns.take (k + 1)).flatMap nodeB = (ns.take k).flatMap nodeB ++ nodeB v) := by show _ = _; rw [flatB_succ ns k hkl, hv]
      have LE : Hid (((ns.take k).flatMap nodeB).length ≤ 66 * n) := by
        show _ ≤ _
        rw [flatB_length (fun u hu => HD.out.1 u (List.mem_of_mem_take hu)), List.length_take, HN.out]
        omega
      have HV : Hid (∀ hj : k < ns.length, ns[k] = v) := fun _ => hv.symm
      have HKL := Lib.hid hlt
      have c0 : wr.cell? ⟨b, off + k * 65, none⟩ = some (.int .i64 v.n) := by have h_ := RG.out 0 (.int .i64 v.n) (by rw [hpc]; rfl); rw [Nat.add_zero] at h_; exact h_
      clear hpc hall hb hv hvok hkl
      by_cases hg : v.good = true
      · have hg2 := hg
        simp only [NodeV.good, Bool.and_eq_true, decide_eq_true_eq] at hg2
        obtain ⟨g0, g1⟩ := hg2
        have HG := Lib.hid hg
        clear hg
        go_wp2_with (first
          | (refine wpList_load_arr rfl _ _ rfl b (off + k * 65) rfl pc _ (by with_reducible exact RG.out) Try.underlying118 rfl (by rw [PZ.out]; kernel_rfl) ?_)
          | (go_at_call 81; go_must (rw [HP.out]; refine (rNodeBytes_any v VOK.out HG.out _).mono ?_; rw [← HP.out]; rintro e w4 ⟨u, rfl, ho, hb⟩; obtain ⟨A4, c4, rfl, hc4, hr4⟩ := own8_form ho; have RD := Lib.hid hr4; have O4 := Lib.hid (own8_below O0.out hb); have B4 := Lib.hid (B0.out.trans (hb.mono B0.out.size)); clear ho hb hc4 hr4))
          | (at_builtin; go_must (refine app8 (l := (ns.take k).flatMap nodeB) (news := nodeB v) rfl rfl rfl rfl O4.out RD.out (by have h_ := LE.out; have h2_ := HM.out; rw [nodeB_length VOK.out]; omega) B4.out.size ?_; intro v5 w5 hown hg5 hx; have hb5 := below_own8 B4.out O4.out hg5; have G : Hid (Own8 w5 w.heap.size v5 ((ns.take (k + 1)).flatMap nodeB) ∧ Below w.heap.size w w5) := ⟨by rw [NX.out]; exact hown, hb5⟩; clear hown hg5 hx hb5)))
        go_roundw
        case rel => exact ⟨k + 1, HKL.out, by go_num, G.out.1, G.out.2, fun j hj hlt => by
          rcases Nat.lt_or_ge j k with h' | h'
          · exact hO.out.2.2 j hj h'
          · obtain rfl : j = k := by omega
            rw [HV.out hj]; exact HG.out⟩
        case measure => simp [intOf]; omega
      · have hgf : v.good = false := by simpa using hg
        have HG : Hid (nodesG ns = false) := nodesG_no (k := k) (by rw [HN.out]; exact hlt) (by rw [HV.out]; exact hgf)
        have hor : v.n < 0 ∨ (¬ v.n < 0 ∧ 256 < v.n) := by
          simp only [NodeV.good, Bool.and_eq_false_iff, decide_eq_false_iff_not] at hgf
          omega
        clear hg hgf
        rcases hor with hneg | ⟨hpos, hbig⟩
        · go_wp2
          go_ret2
          exact ⟨.slice none 0 0, by rw [HG.out]; rfl, by unfold nodesB; rw [HG.out]; exact own8_nil _ _, B0.out⟩
        · go_wp2
          go_ret2
          exact ⟨.slice none 0 0, by rw [HG.out]; rfl, by unfold nodesB; rw [HG.out]; exact own8_nil _ _, B0.out⟩
    · obtain rfl : k = n := by omega
      have HG : Hid (nodesG ns = true) := nodesG_yes fun j hj => hO.out.2.2 j hj (by rw [← HN.out]; exact hj)
      go_wp2
      go_ret2
      have h1 := hO.out.1
      rw [List.take_of_length_le (by rw [HN.out]; exact Nat.le_refl _)] at h1
      rw [HG.out]
      exact ⟨_, rfl, by unfold nodesB; rw [HG.out]; exact h1, hO.out.2.1⟩
end Go.Proofs.Ytbpgbihcihnieaa

namespace Go.Proofs.Ytbpgbihcihnieaa
open Go.RowKit
def stepW : List UInt8 := [115, 116, 101, 112]
theorem stepW_cells : (#[.int .u8 115, .int .u8 116, .int .u8 101, .int .u8 112] : Array Value) = (bvs stepW).toArray := rfl
def stepL (r : RootV) (ns : List NodeV) (ad lk : List UInt8) : List (List UInt8) := [stepW, signB r, nodesB ns, ad, lk]
def stepB (r : RootV) (ns : List NodeV) (ad lk : List UInt8) : List UInt8 := if nodesG ns then encB (stepL r ns ad lk) else []
def stepE (r : RootV) (ns : List NodeV) (ad lk : List UInt8) : Int := if nodesG ns then encE (stepL r ns ad lk) else 1
/-- A word that is built and marked. -/
def WJ (d : Nat → Bool) (i0 i1 B : Nat) (x0 x1 : Value) (arr : Array Value) (n : Nat) (word : List UInt8) (w : World) : Prop :=
  (d i1 = false → d i0 = true → ∃ bq, x0 = .slice (some ⟨bq, 0, none⟩) n n ∧ B < bq ∧ w.heap[bq]? = some (.cells arr 5 (0, 0))) ∧ (d i1 = true → Itm w x1 word)
def IJ (d : Nat → Bool) (i : Nat) (x : Value) (l : List UInt8) (w : World) : Prop := d i = true → Itm w x l
theorem WJ.below {d : Nat → Bool} {i0 i1 B n : Nat} {x0 x1 : Value} {arr : Array Value} {word : List UInt8} {w w' : World} (h : WJ d i0 i1 B x0 x1 arr n word w) (hb : Below w.heap.size w w') : WJ d i0 i1 B x0 x1 arr n word w' :=
  ⟨fun h1 h0 => by obtain ⟨bq, e, hB, hq⟩ := h.1 h1 h0; exact ⟨bq, e, hB, heap_below hq hb⟩, fun h1 => (h.2 h1).below hb⟩
theorem IJ.below {d : Nat → Bool} {i : Nat} {x : Value} {l : List UInt8} {w w' : World} (h : IJ d i x l w) (hb : Below w.heap.size w w') : IJ d i x l w' := fun h1 => (h h1).below hb
theorem IJ.cells {d : Nat → Bool} {i : Nat} {x : Value} {l : List UInt8} {w w' : World} (h : IJ d i x l w) (hc : ∀ a, w'.cell? a = w.cell? a) (hs : w'.heap.size = w.heap.size) : IJ d i x l w' := fun h1 => (h h1).cells hc hs
/-- The parts of a step in its box. -/
structure StepIn (w : World) (cs : Array Value) (r : RootV) (ns : List NodeV) (ad lk : List UInt8) (An Aa Al : Option Addr) (cn na ca nl cl : Nat) : Prop where
  hcs : cs = (r.vs ++ [Value.slice An ns.length cn, Value.slice Aa na ca, Value.slice Al nl cl]).toArray
  hok : r.ok
  hns : Nds w w.heap.size An ns
  hnl : ns.length ≤ 1954687338211
  had : Reads w w.heap.size 64 Aa na (bvs ad)
  hal : ad.length ≤ 140737488355328
  hlk : Reads w w.heap.size 96 Al nl (bvs lk)
  hll : lk.length ≤ 140737488355328
theorem vs_root {r : RootV} (h : r.ok) : r.vs.length = 163 := by simp [RootV.vs, bvs_length, h.p, h.h, h.l, h.s]
theorem StepIn.size {w : World} {cs : Array Value} {r : RootV} {ns : List NodeV} {ad lk : List UInt8} {An Aa Al : Option Addr} {cn na ca nl cl : Nat} (h : StepIn w cs r ns ad lk An Aa Al cn na ca nl cl) : cs.size = 166 := by
  rw [h.hcs]; simp [vs_root h.hok]
theorem StepIn.at_ {w v : World} {b : Nat} {cs : Array Value} {r : RootV} {ns : List NodeV} {ad lk : List UInt8} {An Aa Al : Option Addr} {cn na ca nl cl : Nat} {t : TypeId} {f : Nat × Nat} (h : StepIn w cs r ns ad lk An Aa Al cn na ca nl cl) (hb : v.heap[b]? = some (.cells cs t f)) :
    v.cell? ⟨b, 163, none⟩ = some (.slice An ns.length cn) ∧ v.cell? ⟨b, 164, none⟩ = some (.slice Aa na ca) ∧ v.cell? ⟨b, 165, none⟩ = some (.slice Al nl cl) ∧ v.rangeAt b 0 r.cs.toList := by
  have hl := vs_root h.hok
  refine ⟨?_, ?_, ?_, fun j u hu => ?_⟩
  · rw [cell_of_row v b _ _ _ _ hb, h.hcs, List.getElem?_toArray, List.getElem?_append_right (by omega), hl]; rfl
  · rw [cell_of_row v b _ _ _ _ hb, h.hcs, List.getElem?_toArray, List.getElem?_append_right (by omega), hl]; rfl
  · rw [cell_of_row v b _ _ _ _ hb, h.hcs, List.getElem?_toArray, List.getElem?_append_right (by omega), hl]; rfl
  · have hj : j < 163 := by
      rcases Nat.lt_or_ge j 163 with h' | h'
      · exact h'
      · rw [List.getElem?_eq_none (by simp [RootV.cs, hl]; exact h')] at hu; cases hu
    rw [Nat.zero_add, cell_of_row v b _ _ _ _ hb, h.hcs, List.getElem?_toArray, List.getElem?_append_left (by omega)]
    exact hu
def StepPost (r : RootV) (ns : List NodeV) (ad lk : List UInt8) (w : World) (e : Ending) (w' : World) : Prop := ∃ v, e = .returned (.tuple #[v, .int .i64 (stepE r ns ad lk)]) ∧ Own8 w' w.heap.size v (stepB r ns ad lk) ∧ Below w.heap.size w w'
end Go.Proofs.Ytbpgbihcihnieaa
