/- The walks of Reduce, Add. No conditions. -/
import Derived.Test.YtagjeideohplpaaDoorS6b
import Derived.Test.YtagjeideohplpaaDoorReg7
namespace Go.Proofs.YtagjeideohplpaaDoor
open Go.RowKit
theorem zero32 : ∃ zs : Array Value, zs.size = 32 ∧ (∀ w, (zeroValue 22).run Tryd.prog w = .ok (.agg zs) w) := ⟨(bvs (List.replicate 32 0)).toArray, by simp [bvs], fun w => by kernel_rfl⟩
theorem ret32 {wr : World} {b : Nat} {cs : Array Value} (h : wr.there b 0 32) (hs : cs.size = 32) :
    (loadVar 22 ⟨b, 0, none⟩).run Tryd.prog (wr.setCells b 0 cs.toList) = .ok (.agg cs) (wr.setCells b 0 cs.toList) := by
  have h1 := run_loadVar_mid (P := Tryd.prog) (wr.setCells b 0 cs.toList) b 0 22 cs.toList _ (World.rangeAt_setCells_same _ _ _ _ (by rw [Array.length_toList, hs]; exact h)) Tryd.underlying22 rfl (by rw [Array.length_toList, hs]; kernel_rfl)
  rw [Array.toArray_toList] at h1
  exact h1
theorem there_below {w w' : World} {b o n : Nat} (h : w.there b o n) (hb : b < w.heap.size) (hB : Below w.heap.size w w') : w'.there b o n := fun j hj => by
  have h1 := hB.block b hb
  rw [World.cell?_of_block (a := ⟨b, o + j, none⟩) h1, World.frozen?_of_block (a := ⟨b, o + j, none⟩) h1]
  exact h j hj
theorem reads_box (w : World) (l : List UInt8) (t : TypeId) {w' : World} (hb : Below (w.heap.size + 1) (w.alloc (.cells (bvs l).toArray t)) w') : Reads w' w'.heap.size 1 (some ⟨w.heap.size, 0, none⟩) l.length (bvs l) := by
  have hs : w.heap.size < w'.heap.size := by have := hb.size; simp at this; omega
  refine ⟨by simp [bvs_length], fun _ => ⟨_, rfl, hs, fun j u hu => ?_⟩⟩
  rw [add_none]
  refine (hb.cell (p := ⟨w.heap.size, 0 + j, none⟩) (by show w.heap.size < _; omega)).trans ?_
  rw [Nat.zero_add, cell_new]
  simpa using hu
set_option maxRecDepth 100000 in
set_option maxHeartbeats 1000000 in
theorem Reduce_any (l : List UInt8) (hl : l.length = 64) (w : World) (ho : Ord w) : Calls Tryd.prog 8 #[.agg (bvs l).toArray] w (BytesPost (toB (leN l % ordN)) w) := by
  obtain ⟨zs, hzz, hz32⟩ := zero32
  obtain ⟨xs, hxs⟩ : ∃ xs : Array Value, xs = (bvs l).toArray := ⟨_, rfl⟩
  rw [← hxs]
  have Hb : Hid (Below w.heap.size w ((w.alloc (.cells xs 24)).alloc (.cells zs 22))) := ((Below.refl _ _).alloc (Nat.le_refl _) _).alloc (by simp) _
  have Hth : Hid (((w.alloc (.cells xs 24)).alloc (.cells zs 22)).there (w.heap.size + 1) 0 32) := by
    have h1 := there_new (w.alloc (.cells xs 24)) zs 22 32 (by omega)
    rw [show (w.alloc (.cells xs 24)).heap.size = w.heap.size + 1 from by simp] at h1
    exact h1
  have Hr : Hid (Reads ((w.alloc (.cells xs 24)).alloc (.cells zs 22)) ((w.alloc (.cells xs 24)).alloc (.cells zs 22)).heap.size 1 (some ⟨w.heap.size, 0, none⟩) l.length (bvs l)) := by
    rw [hxs]
    exact reads_box w l _ ((Below.refl _ _).alloc (by simp) _)
  have Hl := Lib.hid hl
  have Hxs := Lib.hid hxs
  have Ho := Lib.hid ho
  clear hl hxs ho
  go_enter Tryd.func8, Tryd.ntmps8
  go_wp2_with (first
    | (go_at_call 18; go_must (have h_ := reduce_any (m := 8) (c := 64) l Hl.out ⟨by omega, by omega⟩ _ Hr.out (Ho.out.below Hb.out); rw [Hl.out] at h_; refine h_.mono ?_; rintro e w2 ⟨d, rfl, hd, hdv, hb2⟩; have H2 := Lib.hid (And.intro hd hdv); have HB2 := Lib.hid hb2; clear hd hdv hb2))
    | (go_at_call 19; go_must (refine (bytes_any d H2.out.1 _).mono ?_; rintro e w3 ⟨rfl, hb3⟩; rw [byteW_val H2.out.1, H2.out.2]; have HB3 := Lib.hid hb3; clear hb3; obtain ⟨cs, hcs⟩ : ∃ cs, (bvs (toB (leN l % ordN))).toArray = cs := ⟨_, rfl⟩; rw [hcs]; have Hcs := Lib.hid hcs; have Hcz : Hid (cs.size = 32) := (by show cs.size = 32; rw [← hcs]; simp [bvs_length, toB_length]); have Hth3 := Lib.hid (there_below (there_below Hth.out (by simp) HB2.out) (by have h_ := HB2.out.size; simp at h_; omega) HB3.out); clear hcs))
    | (refine wpList_store_mid rfl _ _ _ rfl (w.heap.size + 1) 0 cs rfl rfl (by rw [Hcz.out]; exact Hth3.out) (by rw [Hcz.out]; kernel_rfl) (by rw [← Hcs.out]; exact all_oneCell_toArray (bvs_one _)) ?_))
  have hld := ret32 Hth3.out Hcz.out
  refine bodyPost_ret (v := .agg cs) (by simp [results, Tryd.results8, Act.put, asAddr, hld]) rfl ⟨by rw [← Hcs.out], ?_⟩
  exact below_setCells _ _ _ ((Hb.out.trans (HB2.out.mono Hb.out.size)).trans (HB3.out.mono (Nat.le_trans Hb.out.size HB2.out.size))) (by omega)
end Go.Proofs.YtagjeideohplpaaDoor
