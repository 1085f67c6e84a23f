/- The walk of bytes. No conditions. -/
import Derived.Test.YtagjeideohplpaaDoorS5
import Derived.Deep.LoopGhost
namespace Go.Proofs.YtagjeideohplpaaDoor
open Go.RowKit
def genC (f : Nat → UInt8) (n k : Nat) : Array Value := ((List.range n).map fun i => if i < k then bv (f i) else .int .u8 0).toArray
def genL (f : Nat → UInt8) (n : Nat) : List UInt8 := (List.range n).map f
theorem genC_size (f : Nat → UInt8) (n k : Nat) : (genC f n k).size = n := by simp [genC]
theorem genC_set (f : Nat → UInt8) (n k : Nat) (hk : k < n) {v : Value} (hv : v = bv (f k)) : (genC f n k).setIfInBounds k v = genC f n (k + 1) := by
  subst hv
  apply Array.ext_getElem?
  intro i
  by_cases hi : i = k
  · subst hi; simp [genC, hk]
  · rw [Array.getElem?_setIfInBounds_ne (Ne.symm hi)]
    simp only [genC]
    by_cases h64 : i < n
    · simp only [List.getElem?_toArray, List.getElem?_map, List.getElem?_range h64, Option.map_some]
      by_cases h : i < k
      · rw [if_pos h, if_pos (by omega)]
      · rw [if_neg h, if_neg (by omega)]
    · simp [h64]
theorem genC_last (f : Nat → UInt8) (n : Nat) : genC f n n = (bvs (genL f n)).toArray := by
  simp only [genC, bvs, genL, List.map_map]
  refine congrArg List.toArray (List.map_congr_left ?_)
  intro i hi
  rw [if_pos (by simpa using hi)]
  rfl
theorem genL_length (f : Nat → UInt8) (n : Nat) : (genL f n).length = n := by simp [genL]
theorem there_alloc {w : World} {b o n : Nat} (h : w.there b o n) (hb : b < w.heap.size) (x : Obj) : (w.alloc x).there b o n := fun j hj => by
  have h1 := Below.heap_alloc w x b hb
  rw [World.cell?_of_block (a := ⟨b, o + j, none⟩) h1, World.frozen?_of_block (a := ⟨b, o + j, none⟩) h1]
  exact h j hj
theorem there_new (w : World) (cs : Array Value) (t : TypeId) (n : Nat) (h : n ≤ cs.size) : (w.alloc (.cells cs t)).there w.heap.size 0 n := fun j hj => by
  refine ⟨?_, ?_⟩
  · rw [Nat.zero_add, cell_new, Array.getElem?_eq_getElem (by omega)]; rfl
  · unfold World.frozen?
    rw [show (w.alloc (.cells cs t)).heap[w.heap.size]? = _ from heap_alloc_new w _]
    simp
theorem below_setCells {B b : Nat} {a : World} : ∀ (vs : List Value) (o : Nat) (w : World), Below B a w → B ≤ b → Below B a (w.setCells b o vs)
  | [], _, _, h, _ => h
  | v :: vs, o, _, h, hb => below_setCells vs (o + 1) _ (h.setCell (p := ⟨b, o, none⟩) hb v) hb
def W4.wd (x : W4) (j : Nat) : Nat := if j = 0 then x.a else if j = 1 then x.b else if j = 2 then x.c else x.d
theorem W4.at_ (x : W4) {j : Nat} (hj : j < 4) : x.cs[j]? = some (.int .u64 (x.wd j : Int)) := by
  obtain rfl | rfl | rfl | rfl : j = 0 ∨ j = 1 ∨ j = 2 ∨ j = 3 := by omega
  all_goals rfl
theorem W4.wd_lt {x : W4} (h : x.ok) (j : Nat) : x.wd j < 18446744073709551616 := by
  unfold W4.ok at h
  unfold W4.wd
  split
  · exact h.1
  · split
    · exact h.2.1
    · split
      · exact h.2.2.1
      · exact h.2.2.2
def byteW (x : W4) (i : Nat) : UInt8 := UInt8.ofNat (x.wd (i / 8) / 2 ^ (8 * (i % 8)))
theorem byte_val (x : W4) (k : Nat) : Value.int IntKind.u8 ((x.wd (k / 8) : Int) / 2 ^ (8 * (k % 8)) % 256) = bv (byteW x k) := by
  unfold bv byteW
  congr 1
def BytesPost (l : List UInt8) (w : World) (e : Ending) (w' : World) : Prop := e = .returned (.agg (bvs l).toArray) ∧ Below w.heap.size w w'
set_option maxRecDepth 100000 in
set_option maxHeartbeats 1000000 in
theorem bytes_any (x : W4) (hx : x.ok) (w : World) : Calls Tryd.prog 19 #[.agg x.cs] w (BytesPost (genL (byteW x) 32) w) := by
  obtain ⟨zs, hzs⟩ : ∃ zs : Array Value, zs = genC (byteW x) 32 0 := ⟨_, rfl⟩
  have hz32 : ∀ w, (zeroValue 22).run Tryd.prog w = .ok (.agg zs) w := fun w => by rw [hzs]; kernel_rfl
  have Hzs := Lib.hid hzs
  have hzz : zs.size = 32 := by rw [hzs]; exact genC_size _ _ _
  have Hx := Lib.hid hx
  have hthz := there_new (w.alloc (.cells x.cs 35)) zs 22 32 (by omega)
  have hX : ((w.alloc (.cells x.cs 35)).alloc (.cells zs 22)).heap[w.heap.size]? = some (.cells x.cs 35 (0, 0)) := by
    rw [Below.heap_alloc _ _ _ (by simp)]; exact heap_alloc_new w _
  rw [show (w.alloc (.cells x.cs 35)).heap.size = w.heap.size + 1 from by simp] at hthz
  have HX := Lib.hid hX
  have Hth := Lib.hid hthz
  clear hzs hzz hx hX hthz
  go_enter Tryd.func19, Tryd.ntmps19
  go_wp2
  go_loopw [5] (fun i wr => ∃ (k : Nat) (cs : Array Value) (wz : World), k ≤ 32 ∧ i = .int .i64 k ∧ Hid (cs = genC (byteW x) 32 k) ∧ wr = wz.alloc (.cells cs 22) ∧ Hid (w.heap.size + 2 = wz.heap.size) ∧ Hid (wz.there (w.heap.size + 1) 0 32 ∧ wz.heap[w.heap.size]? = some (.cells x.cs 35 (0, 0))) ∧ Hid (Below w.heap.size w wz)) (fun i _ => 32 - (intOf i).toNat)
  case atStart => exact ⟨0, _, _, by omega, rfl, Hzs.out, rfl, (by simp : w.heap.size + 2 = ((w.alloc _).alloc _).heap.size), ⟨Hth.out, HX.out⟩, (((Below.refl _ _).alloc (Nat.le_refl _) _).alloc (by simp) _)⟩
  case round =>
    obtain ⟨k, cs, wz, hk, rfl, hcs, rfl, hsz, hth, hbw⟩ := hrel
    clear HX Hth
    have hsz' : w.heap.size + 2 = wz.heap.size := hsz.out
    by_cases hlt : k < 32
    · have hlt' : (k : Int) < 32 := by omega
      have hk0 : (0 : Int) ≤ (k : Int) := by omega
      have hcell : (wz.alloc (.cells cs 22)).cell? ⟨wz.heap.size, k, none⟩ = cs[k]? := cell_new _ _ _ _
      have hck : cs[k]? = some (.int .u8 0) := by rw [hcs.out]; simp [genC, hlt]
      have hbox : (wz.alloc (.cells cs 22)).cell? ⟨w.heap.size, k / 8, none⟩ = some (.int .u64 (x.wd (k / 8) : Int)) := by
        rw [World.cell?_alloc_lt _ _ _ (by simp; omega), cell_of_row wz w.heap.size (k / 8) _ _ _ hth.out.2]
        exact x.at_ (by omega)
      go_wp2
      go_roundw
      case rel => exact ⟨k + 1, _, wz, hlt, by go_num, (by show _ = _; rw [hcs.out]; exact genC_set _ 32 k hlt (byte_val x k)), rfl, hsz, hth, hbw⟩
      case measure => simp [intOf]; omega
    · obtain rfl : k = 32 := by omega
      have hrange : (wz.alloc (.cells cs 22)).rangeAt wz.heap.size 0 cs.toList := fun j v hv => by rw [Nat.zero_add, cell_new]; simpa using hv
      have hr := Lib.hid hrange
      have h64 : Hid (cs.size = 32) := by show cs.size = 32; rw [hcs.out]; exact genC_size _ _ _
      clear hrange
      go_wp2_with (first
        | (refine wpList_load_mid rfl _ _ rfl (w.heap.size + 1 + 1) 0 rfl cs.toList _ (by rw [show w.heap.size + 1 + 1 = wz.heap.size from hsz']; exact hr.out) Tryd.underlying22 rfl (by rw [Array.length_toList, h64.out]; kernel_rfl) ?_; rw [Array.toArray_toList])
        | (refine wpList_store_mid rfl _ _ _ rfl (w.heap.size + 1) 0 cs rfl rfl (by rw [h64.out]; exact there_alloc hth.out.1 (by omega) _) (by rw [h64.out]; kernel_rfl) (by rw [hcs.out, genC_last]; exact all_oneCell_toArray (bvs_one _)) ?_))
      have hld : (loadVar 22 ⟨w.heap.size + 1, 0, none⟩).run Tryd.prog ((wz.alloc (.cells cs 22)).setCells (w.heap.size + 1) 0 cs.toList) = .ok (.agg cs.toList.toArray) ((wz.alloc (.cells cs 22)).setCells (w.heap.size + 1) 0 cs.toList) :=
        run_loadVar_mid _ _ _ _ cs.toList _ (World.rangeAt_setCells_same _ _ _ _ (by rw [Array.length_toList, h64.out]; exact there_alloc hth.out.1 (by omega) _)) Tryd.underlying22 rfl (by rw [Array.length_toList, h64.out]; kernel_rfl)
      refine bodyPost_ret (v := .agg cs.toList.toArray) (by simp [results, Tryd.results19, Act.put, asAddr, hld]) rfl ⟨?_, ?_⟩
      · rw [hcs.out, genC_last]
      · exact below_setCells _ _ _ (hbw.out.alloc hbw.out.size _) (by omega)
end Go.Proofs.YtagjeideohplpaaDoor
