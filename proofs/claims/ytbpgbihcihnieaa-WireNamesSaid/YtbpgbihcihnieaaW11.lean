/- The walk of bytes.Compare. No conditions. -/
import Derived.Test.YtbpgbihcihnieaaLst
import Derived.Lib.BytesEntry
import Derived.Laws.Externs
import Derived.Deep.DeepMust
namespace Go.Proofs.Ytbpgbihcihnieaa
open Go.RowKit

theorem run_bytesOf {w : World} {B n : Nat} {A : Option Addr} {l : List UInt8} (hr : Reads w B 1 A n (bvs l)) (c : Nat) : (Extern.Bytes.bytesOf (.slice A n c)).run Try.prog w = .ok ⟨l.toArray⟩ w := by
  have hm : n = l.length := by have := hr.1; rw [bvs_length] at this; omega
  subst hm
  cases A with
  | none =>
    have hn : l = [] := by
      cases l with
      | nil => rfl
      | cons a l => obtain ⟨_, h, _⟩ := hr.2 (by simp); cases h
    subst hn
    rfl
  | some ad =>
    have hb : Lib.bytesOf (l.map fun b => (b.toNat : Int)) = l := by
      simp only [Lib.bytesOf, List.map_map]
      refine (List.map_congr_left (g := id) fun b _ => ?_).trans (List.map_id l)
      simp
    have := Lib.run_loadBytesX (P := Try.prog) w (l.map fun b => (b.toNat : Int)) ad .empty (fun j x hj => by
      have hjl : j < l.length := by have := (List.getElem?_eq_some_iff.1 hj).1; simpa using this
      obtain ⟨ad', h, _, hc⟩ := hr.2 (by omega)
      cases h
      refine hc j _ ?_
      simp [List.getElem?_eq_getElem hjl] at hj
      subst hj
      simp [bvs, bv, List.getElem?_eq_getElem hjl])
    rw [List.length_map, hb] at this
    show (Extern.Bytes.loadBytes ad l.length .empty).run Try.prog w = _
    rw [this]
    congr 1
    apply ByteArray.ext
    show (#[] : Array UInt8) ++ l.toArray = l.toArray
    simp

theorem run_cmp {w : World} {B n B2 m : Nat} {A A2 : Option Addr} {l l2 : List UInt8} (hr : Reads w B 1 A n (bvs l)) (hr2 : Reads w B2 1 A2 m (bvs l2)) (c c2 : Nat) :
    (callFunc 78 #[.slice A n c, .slice A2 m c2]).run Try.prog w = .ok (.value (.int .i64 (Lib.compareBytes l l2))) w := by
  rw [run_callFunc_extern Try.func78 (by kernel_rfl) (by kernel_rfl) (by kernel_rfl) (e := Extern.BytealgCompare.compare) (by kernel_rfl)]
  change (Sem.run Try.prog (do pure (goInt (Extern.BytealgCompare.cmp (← Extern.Bytes.bytesOf (.slice A n c)) (← Extern.Bytes.bytesOf (.slice A2 m c2))))) w).andThen _ = _
  simp only [Sem.run_bind, Sem.run_pure, Result.andThen, run_bytesOf hr, run_bytesOf hr2]
  rw [Lib.cmp_eq]
  rfl

set_option maxRecDepth 100000 in
set_option maxHeartbeats 1000000 in
theorem Compare_any (A A2 : Option Addr) (n c m c2 B B2 : Nat) (l l2 : List UInt8) (w : World) (hr : Reads w B 1 A n (bvs l)) (hr2 : Reads w B2 1 A2 m (bvs l2)) :
    Calls Try.prog 45 #[.slice A n c, .slice A2 m c2] w fun e w' => e = .returned (.int .i64 (Lib.compareBytes l l2)) ∧ w' = w := by
  have hc := run_cmp hr hr2 c c2
  go_enter Try.func45, Try.ntmps45
  go_wp2
  go_ret
  exact ⟨rfl, rfl⟩

/-- The order of two hashes: as numbers, big-endian. -/
def belowB : List UInt8 → List UInt8 → Bool
  | a :: l, b :: m => if a = b then belowB l m else decide (a < b)
  | _, _ => false
theorem compare_below : ∀ (l m : List UInt8), l.length = m.length → (decide (0 ≤ Lib.compareBytes l m) = !belowB l m)
  | [], [], _ => by simp [Lib.compareBytes, belowB]
  | a :: l, b :: m, h => by
    have ih := compare_below l m (by simpa using h)
    unfold Lib.compareBytes belowB
    by_cases hab : a < b
    · have hne : a ≠ b := fun e => by subst e; exact absurd hab (UInt8.lt_irrefl a)
      simp [hab, hne]
    · by_cases hba : b < a
      · have hne : a ≠ b := fun e => by subst e; exact absurd hba (UInt8.lt_irrefl a)
        simp [hab, hba, hne]
      · have heq : a = b := UInt8.le_antisymm (UInt8.not_lt.1 hba) (UInt8.not_lt.1 hab)
        rw [if_neg hab, if_neg hba, if_pos heq]
        exact ih
  | [], _ :: _, h => by simp at h
  | _ :: _, [], h => by simp at h
end Go.Proofs.Ytbpgbihcihnieaa
