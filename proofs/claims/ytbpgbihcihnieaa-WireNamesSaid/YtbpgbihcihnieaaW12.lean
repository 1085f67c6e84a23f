/- The walk of the reference's Below (of two hashes). No conditions. -/
import Derived.Test.YtbpgbihcihnieaaW11
import Derived.Test.YtbpgbihcihnieaaW7
import Derived.BigQuiet
namespace Go.Proofs.Ytbpgbihcihnieaa
open Go.RowKit

theorem belowB_same {a : UInt8} {l m : List UInt8} : belowB (a :: l) (a :: m) = belowB l m := by rw [belowB, if_pos rfl]
theorem belowB_ne {a b : UInt8} {l m : List UInt8} (h : a ≠ b) : belowB (a :: l) (b :: m) = decide (a < b) := by rw [belowB, if_neg h]
def BelPost (l m : List UInt8) (w : World) (e : Ending) (w' : World) : Prop := e = .returned (.bool (belowB l m)) ∧ Below w.heap.size w w'
theorem BelPost.mk {l m : List UInt8} {w w' : World} {b : Bool} (h : belowB l m = b) (hb : Below w.heap.size w w') : BelPost l m w (.returned (.bool b)) w' := ⟨by rw [h], hb⟩

theorem bvs_at {l l' : List UInt8} {a : UInt8} {k : Nat} (h : l.drop k = a :: l') : (bvs l).toArray[k]? = some (.int .u8 (a.toNat : Int)) := by
  have h1 : l[k]? = some a := by
    have := congrArg (fun x : List UInt8 => x[0]?) h
    simpa using this
  simp [bvs, bv, h1]
theorem two_first (w : World) (cs ds : Array Value) (t : TypeId) (k : Nat) : ((w.alloc (.cells cs t)).alloc (.cells ds t)).cell? ⟨w.heap.size, k, none⟩ = cs[k]? := by
  rw [World.cell?_alloc_lt _ _ _ (by simp)]
  exact cell_new w cs t k
theorem two_last (w : World) (cs ds : Array Value) (t : TypeId) (k : Nat) : ((w.alloc (.cells cs t)).alloc (.cells ds t)).cell? ⟨w.heap.size + 1, k, none⟩ = ds[k]? := by
  have h1 : (w.alloc (.cells cs t)).heap.size = w.heap.size + 1 := by simp
  rw [← h1]
  exact cell_new (w.alloc (.cells cs t)) ds t k
theorem u8_same {a b : UInt8} (h : ((a.toNat : Int) != (b.toNat : Int)) = false) : a = b := by
  have h : (a.toNat : Int) = (b.toNat : Int) := by simpa using h
  exact UInt8.toNat_inj.1 (by omega)
theorem drop_next {l l' : List UInt8} {a : UInt8} {k : Nat} (h : l.drop k = a :: l') : l.drop (k + 1) = l' := by
  have := congrArg List.tail h
  simpa using this
set_option maxRecDepth 100000 in
set_option maxHeartbeats 1000000 in
theorem rBelow_any (l m : List UInt8) (w : World) (hl : l.length = 32) (hm : m.length = 32) :
    Calls Try.prog 46 #[.agg (bvs l).toArray, .agg (bvs m).toArray] w (BelPost l m w) := by
  obtain ⟨cs, hcs⟩ : ∃ cs, cs = (bvs l).toArray := ⟨_, rfl⟩
  obtain ⟨ds, hds⟩ : ∃ ds, ds = (bvs m).toArray := ⟨_, rfl⟩
  rw [← hcs, ← hds]
  have Hcs := Lib.hid hcs
  have Hds := Lib.hid hds
  have Hl := Lib.hid hl
  have Hm := Lib.hid hm
  clear hcs hds hl hm
  go_enter Try.func46, Try.ntmps46
  go_wp2
  go_loopw [6] (fun i wr => ∃ k : Nat, k ≤ 32 ∧ i = .int .i64 k ∧ Hid (belowB l m = belowB (l.drop k) (m.drop k)) ∧ ∃ q, wr = ((w.alloc (.cells cs 44)).alloc (.cells ds 44)).drewN q) (fun i _ => 32 - (intOf i).toNat)
  case atStart => exact ⟨0, by omega, rfl, rfl, 0, rfl⟩
  case round =>
    obtain ⟨k, hk, rfl, hbel, q, rfl⟩ := hrel
    by_cases hlt : k < 32
    · obtain ⟨a, l', hal⟩ : ∃ a l', l.drop k = a :: l' := ⟨_, _, List.drop_eq_getElem_cons (by have := Hl.out; omega)⟩
      obtain ⟨b, m', hbm⟩ : ∃ a l', m.drop k = a :: l' := ⟨_, _, List.drop_eq_getElem_cons (by have := Hm.out; omega)⟩
      have hca : ∀ q, (((w.alloc (.cells cs 44)).alloc (.cells ds 44)).drewN q).cell? ⟨w.heap.size, k, none⟩ = some (.int .u8 (a.toNat : Int)) := fun q => (two_first w cs ds _ k).trans (by rw [Hcs.out]; exact bvs_at hal)
      have hcb : ∀ q, (((w.alloc (.cells cs 44)).alloc (.cells ds 44)).drewN q).cell? ⟨w.heap.size + 1, k, none⟩ = some (.int .u8 (b.toNat : Int)) := fun q => (two_last w cs ds _ k).trans (by rw [Hds.out]; exact bvs_at hbm)
      have hk32 : (k : Int) < 32 := by omega
      have Hal := Lib.hid hal
      have Hbm := Lib.hid hbm
      clear hal hbm
      by_cases hab : ((a.toNat : Int) != (b.toNat : Int)) = true
      · go_wp2
        go_quiet (fail)
        go_wp2
        go_quiet (fail)
        go_wp2
        go_ret
        exact BelPost.mk (by rw [hbel.out, Hal.out, Hbm.out, belowB_ne (fun e => by subst e; simp at hab)]; exact decide_eq_decide.2 UInt8.lt_iff_toNat_lt) (below_drewN (below_drewN (below_drewN (((Below.refl _ _).alloc (Nat.le_refl _) _).alloc (by simp) _) _) _) _)
      · have hab' : ((a.toNat : Int) != (b.toNat : Int)) = false := by simpa using hab
        clear hab
        go_wp2
        go_quiet (fail)
        go_wp2
        go_roundw
        case rel => exact ⟨k + 1, by omega, by go_num, by refine Lib.hid ?_; rw [drop_next Hal.out, drop_next Hbm.out, hbel.out, Hal.out, Hbm.out, show a = b from u8_same hab', belowB_same], _, rfl⟩
        case measure => simp [intOf]; omega
    · obtain rfl : k = 32 := by omega
      go_wp2
      go_ret
      exact BelPost.mk (by rw [hbel.out, List.drop_eq_nil_of_le (by have := Hl.out; omega)]; rfl) (below_drewN (((Below.refl _ _).alloc (Nat.le_refl _) _).alloc (by simp) _) _)
end Go.Proofs.Ytbpgbihcihnieaa
