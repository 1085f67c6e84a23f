/- The walk of the law's filled. No conditions. -/
import Derived.Test.YtdggibigfocadaaU8
import Derived.Deep.DeepMust
import Derived.Deep.LoopGhost
import Derived.Deep.MidRow
namespace Go.Proofs.Ytdggibigfocadaa
open Go.RowKit

def fillV (b : UInt8) (i : Nat) : UInt8 := if i = 63 then b * 2 else b + UInt8.ofNat (i % 32)
def fillB (b : UInt8) : List UInt8 := (List.range 64).map (fillV b)
def fillC (b : UInt8) (k : Nat) : Array Value := ((List.range 64).map fun i => if i < k then bv (fillV b i) else .int .u8 0).toArray
theorem fillC_size (b : UInt8) (k : Nat) : (fillC b k).size = 64 := by simp [fillC]
theorem fillC_set (b : UInt8) (k : Nat) (hk : k < 64) {v : Value} (hv : v = bv (fillV b k)) : (fillC b k).setIfInBounds k v = fillC b (k + 1) := by
  subst hv
  apply Array.ext_getElem?
  intro i
  by_cases hi : i = k
  · subst hi; simp [fillC, hk]
  · rw [Array.getElem?_setIfInBounds_ne (Ne.symm hi)]
    simp only [fillC]
    by_cases h64 : i < 64
    · simp only [List.getElem?_toArray, List.getElem?_map, List.getElem?_range h64, Option.map_some]
      by_cases h : i < k
      · rw [if_pos h, if_pos (by omega)]
      · rw [if_neg h, if_neg (by omega)]
    · simp [h64]
theorem fillC_last (b : UInt8) : fillC b 64 = (bvs (fillB b)).toArray := by
  simp only [fillC, bvs, fillB, List.map_map]
  refine congrArg List.toArray (List.map_congr_left ?_)
  intro i hi
  rw [if_pos (by simpa using hi)]
  rfl

theorem there_alloc {w : World} {b o n : Nat} (h : w.there b o n) (hb : b < w.heap.size) (x : Obj) : (w.alloc x).there b o n := fun j hj => by
  have h1 := Below.heap_alloc w x b hb
  rw [World.cell?_of_block (a := ⟨b, o + j, none⟩) h1, World.frozen?_of_block (a := ⟨b, o + j, none⟩) h1]
  exact h j hj
theorem there_new (w : World) (cs : Array Value) (t : TypeId) (n : Nat) (h : n ≤ cs.size) : (w.alloc (.cells cs t)).there w.heap.size 0 n := fun j hj => by
  refine ⟨?_, ?_⟩
  · rw [Nat.zero_add, cell_new, Array.getElem?_eq_getElem (by omega)]; rfl
  · unfold World.frozen?
    rw [show (w.alloc (.cells cs t)).heap[w.heap.size]? = _ from heap_alloc_new w _]
    simp
theorem below_setCells {B b : Nat} {a : World} : ∀ (vs : List Value) (o : Nat) (w : World), Below B a w → B ≤ b → Below B a (w.setCells b o vs)
  | [], _, _, h, _ => h
  | v :: vs, o, _, h, hb => below_setCells vs (o + 1) _ (h.setCell (p := ⟨b, o, none⟩) hb v) hb
set_option maxRecDepth 100000 in
set_option maxHeartbeats 1000000 in
theorem filled_any (b : UInt8) (w : World) :
    Calls Try.prog 11 #[.int .u8 (b.toNat : Int)] w fun e w' => e = .returned (.agg (bvs (fillB b)).toArray) ∧ Below w.heap.size w w' := by
  have hbb : (b.toNat : Int) < 256 := by have := b.toNat_lt; omega
  go_enter Try.func11, Try.ntmps11
  go_wp2
  go_loopw [5] (fun i wr => ∃ (k : Nat) (cs : Array Value) (wz : World), k ≤ 64 ∧ i = .int .i64 k ∧ Hid (cs = fillC b k) ∧ wr = wz.alloc (.cells cs 28) ∧ Hid (w.heap.size + 1 = wz.heap.size) ∧ Hid (wz.there w.heap.size 0 64) ∧ Below w.heap.size w wz) (fun i _ => 64 - (intOf i).toNat)
  case atStart => exact ⟨0, _, _, by omega, rfl, rfl, rfl, (by simp : w.heap.size + 1 = (w.alloc _).heap.size), there_new w _ _ 64 (by decide), (Below.refl _ _).alloc (Nat.le_refl _) _⟩
  case round =>
    obtain ⟨k, cs, wz, hk, rfl, hcs, rfl, hsz, hth, hbw⟩ := hrel
    have hsz' : w.heap.size + 1 = wz.heap.size := hsz.out
    by_cases hlt : k < 64
    · have hlt' : (k : Int) < 64 := by omega
      have hk0 : (0 : Int) ≤ (k : Int) := by omega
      have hcell : (wz.alloc (.cells cs 28)).cell? ⟨wz.heap.size, k, none⟩ = cs[k]? := cell_new _ _ _ _
      have hck : cs[k]? = some (.int .u8 0) := by rw [hcs.out]; simp [fillC, hlt]
      by_cases h63 : (k : Int) = 63
      · obtain rfl : k = 63 := by omega
        have hck2 : ∀ v, (cs.setIfInBounds 63 v)[63]? = some v := fun v => by rw [hcs.out]; simp [fillC_size]
        go_wp2
        go_roundw
        case rel => exact ⟨64, _, wz, by omega, by go_num, (by rw [hcs.out]; exact fillC_set b 63 hlt (by unfold fillV; rw [if_pos rfl]; simp [bv])), rfl, hsz, hth, hbw⟩
        case measure => simp [intOf]
      · have hne : k ≠ 63 := by omega
        go_wp2
        go_roundw
        case rel => exact ⟨k + 1, _, wz, by omega, by go_num, (by rw [hcs.out]; exact fillC_set b k hlt (by unfold fillV; rw [if_neg hne]; simp [bv])), rfl, hsz, hth, hbw⟩
        case measure => simp [intOf]; omega
    · obtain rfl : k = 64 := by omega
      have hrange : (wz.alloc (.cells cs 28)).rangeAt wz.heap.size 0 cs.toList := fun j v hv => by rw [Nat.zero_add, cell_new]; simpa using hv
      have hr := Lib.hid hrange
      have h64 : Hid (cs.size = 64) := by rw [hcs.out]; exact fillC_size b 64
      clear hrange
      go_wp2_with (first
        | (refine wpList_load_mid rfl _ _ rfl (w.heap.size + 1) 0 rfl cs.toList _ (by rw [hsz']; exact hr.out) Try.underlying28 rfl (by rw [Array.length_toList, h64.out]; kernel_rfl) ?_; rw [Array.toArray_toList])
        | (refine wpList_store_mid rfl _ _ _ rfl w.heap.size 0 cs rfl rfl (by rw [h64.out]; exact there_alloc hth.out (by omega) _) (by rw [h64.out]; kernel_rfl) (by rw [hcs.out, fillC_last]; exact all_oneCell_toArray (bvs_one _)) ?_))
      have hld : (loadVar 28 ⟨w.heap.size, 0, none⟩).run Try.prog ((wz.alloc (.cells cs 28)).setCells w.heap.size 0 cs.toList) = .ok (.agg cs.toList.toArray) ((wz.alloc (.cells cs 28)).setCells w.heap.size 0 cs.toList) :=
        run_loadVar_mid _ _ _ _ cs.toList _ (World.rangeAt_setCells_same _ _ _ _ (by rw [Array.length_toList, h64.out]; exact there_alloc hth.out (by omega) _)) Try.underlying28 rfl (by rw [Array.length_toList, h64.out]; kernel_rfl)
      refine bodyPost_ret (v := .agg cs.toList.toArray) (by simp [results, Try.results11, Act.put, asAddr, hld]) rfl ⟨?_, ?_⟩
      · rw [hcs.out, fillC_last]
      · exact below_setCells _ _ _ (hbw.alloc hbw.size _) (Nat.le_refl _)
end Go.Proofs.Ytdggibigfocadaa
