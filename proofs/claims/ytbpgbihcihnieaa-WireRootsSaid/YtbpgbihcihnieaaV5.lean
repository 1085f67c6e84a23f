/- The reference's Hash. No conditions. -/
import Derived.Test.YtbpgbihcihnieaaV4
import Derived.Test.YtbpgbihcihnieaaG2
namespace Go.Proofs.Ytbpgbihcihnieaa
open Go.RowKit
theorem zeroRow32 : ∀ w, (zeroValue 44).run Try.prog w = .ok (.agg (bvs (List.replicate 32 0)).toArray) w := fun w => by kernel_rfl
theorem ret32 {wr : World} {b : Nat} {cs : Array Value} (h : wr.there b 0 32) (hs : cs.size = 32) :
    (loadVar 44 ⟨b, 0, none⟩).run Try.prog (wr.setCells b 0 cs.toList) = .ok (.agg cs) (wr.setCells b 0 cs.toList) := by
  have h1 := run_loadVar_mid (P := Try.prog) (wr.setCells b 0 cs.toList) b 0 44 cs.toList _ (World.rangeAt_setCells_same _ _ _ _ (by rw [Array.length_toList, hs]; exact h)) Try.underlying44 rfl (by rw [Array.length_toList, hs]; kernel_rfl)
  rw [Array.toArray_toList] at h1
  exact h1
def HashPost (x : List UInt8) (w : World) (e : Ending) (w' : World) : Prop := ∃ y : List UInt8, y.length = 32 ∧ (x.length = 32 → y = x) ∧ e = .returned (.tuple #[.agg (bvs y).toArray, .bool (decide (x.length = 32))]) ∧ Below w.heap.size w w'
set_option maxRecDepth 100000 in
set_option maxHeartbeats 1000000 in
theorem rHash_any (A : Option Addr) (n c : Nat) (x : List UInt8) (hx : x.length = n) (w : World) (hr : Reads w w.heap.size 1 A n (bvs x)) :
    Calls Try.prog 55 #[.slice A n c] w (HashPost x w) := by
  obtain ⟨zs, hzs⟩ : ∃ zs : Array Value, zs = (bvs (List.replicate 32 0)).toArray := ⟨_, rfl⟩
  have hz32 := zeroRow32
  rw [← hzs] at hz32
  have hzz : zs.size = 32 := by rw [hzs]; simp [bvs_length]
  have hb0 : Below w.heap.size w ((w.alloc (.cells zs 44)).alloc (.cells zs 44)) := ((Below.refl _ _).alloc (Nat.le_refl _) _).alloc (by simp) _
  have hbk : ((w.alloc (.cells zs 44)).alloc (.cells zs 44)).heap[w.heap.size + 1]? = some (.cells zs 44 (0, 0)) := by
    have h1 := heap_alloc_new (w.alloc (.cells zs 44)) (.cells zs 44)
    rw [show (w.alloc (.cells zs 44)).heap.size = w.heap.size + 1 from by simp] at h1
    exact h1
  have hth : ((w.alloc (.cells zs 44)).alloc (.cells zs 44)).there w.heap.size 0 32 := there_alloc (there_new w zs _ 32 (by omega)) (by simp) _
  obtain ⟨w1, hcp, hw1, hfr, hsz⟩ := copy_row (off := 0) (n := 32) (c := 32) (c2 := c) hbk (hr.keep fun _ hp => hb0.cell hp) hx (by omega)
  obtain ⟨y, hy⟩ : ∃ y, y = x.take 32 ++ List.replicate (32 - Nat.min n 32) 0 := ⟨_, rfl⟩
  have hyl : y.length = 32 := by
    have h_ : Nat.min n 32 ≤ 32 := Nat.min_le_right n 32
    rw [hy, List.length_append, List.length_take, List.length_replicate, hx, Nat.min_comm, show min n 32 = Nat.min n 32 from rfl]
    omega
  have hyx : x.length = 32 → y = x := fun e => by
    rw [hy, List.take_of_length_le (by omega), ← hx, e]
    simp
  rw [show (List.take 0 zs.toList ++ bvs (x.take 32) ++ List.drop (0 + Nat.min n 32) zs.toList).toArray = (bvs y).toArray from by
    rw [hy, hzs]
    simp only [bvs, List.take_zero, List.nil_append, Nat.zero_add, List.map_append, List.map_replicate, List.drop_replicate]] at hw1
  have H1 : Hid (w1.heap[w.heap.size + 1]? = some (.cells (bvs y).toArray 44 (0, 0)) ∧ w1.there w.heap.size 0 32 ∧ Below w.heap.size w w1) := by
    refine ⟨hw1, fun j hj => ?_, hb0.trans (hfr.below (by simp; omega) (by simp))⟩
    have h2 := hfr.block w.heap.size (by simp; omega) (by simp)
    rw [World.cell?_of_block (a := ⟨w.heap.size, 0 + j, none⟩) h2, World.frozen?_of_block (a := ⟨w.heap.size, 0 + j, none⟩) h2]
    exact hth j hj
  obtain ⟨cs, hcs⟩ : ∃ cs : Array Value, cs = (bvs y).toArray := ⟨_, rfl⟩
  rw [← hcs] at H1
  have Hcs := Lib.hid hcs
  have Hcz : Hid (cs.size = 32) := by show _ = _; rw [hcs]; simp [bvs_length, hyl]
  have Hy := Lib.hid (And.intro hyl hyx)
  obtain ⟨ok, hok⟩ : ∃ ok : Bool, ok = decide (x.length = 32) := ⟨_, rfl⟩
  have hn : ((n : Int) == 32) = ok := by
    rw [hok, Bool.eq_iff_iff, hx]
    simp
    omega
  have Hok := Lib.hid hok
  clear hbk hth hw1 hfr hsz hb0 hzs hcs hyl hyx hy hok hx hr hzz
  go_enter Try.func55, Try.ntmps55
  go_wp2_with (first
    | (refine wpList_load_arr rfl _ _ rfl (w.heap.size + 1) 0 rfl cs _ (by with_reducible exact range_row H1.out.1) Try.underlying44 rfl (by rw [Hcz.out]; kernel_rfl) ?_)
    | (refine wpList_store_mid rfl _ _ _ rfl w.heap.size 0 cs rfl rfl (by rw [Hcz.out]; with_reducible exact H1.out.2.1) (by rw [Hcz.out]; kernel_rfl) (by rw [Hcs.out]; exact all_oneCell_toArray (bvs_one _)) ?_))
  have hld := ret32 H1.out.2.1 Hcz.out
  refine bodyPost_ret (v := .tuple #[.agg cs, .bool ok]) (by simp [results, Try.results55, asAddr, hld]) rfl ⟨y, Hy.out.1, Hy.out.2, by rw [← Hcs.out, ← Hok.out], ?_⟩
  exact below_setCells _ _ _ H1.out.2.2 (Nat.le_refl _)
end Go.Proofs.Ytbpgbihcihnieaa
