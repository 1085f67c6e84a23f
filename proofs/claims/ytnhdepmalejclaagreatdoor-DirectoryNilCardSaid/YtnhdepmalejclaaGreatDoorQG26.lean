/- The texts W6 W7 W8 W3 W4 W5 of this work, merged by wip/merge.py. No conditions. -/
import Derived.Test.YtnhdepmalejclaaGreatDoorQG25
import Derived.Deep.QuietTactic
import Derived.BigQuiet
import Derived.Lib.SliceRun
import Derived.Test.YtnhdepmalejclaaGreatDoorQG01
import Derived.Deep.DeepMust
import Derived.Deep.LoopGhost
import Derived.Lib.SlBytesConst
namespace Go.Proofs.YtnhdepmalejclaaGreatDoor
open Go.RowKit

/-- A number of 4 bytes off b. -/
def CutPost (l : List UInt8) (B : Nat) (w : World) (e : Ending) (w' : World) : Prop :=
  (∃ n, w' = w.drewN n) ∧ (if l.length < 4 then e = .returned (.tuple #[.int .i64 (-1), .slice none 0 0]) else
    ∃ A c, e = .returned (.tuple #[.int .i64 (num4 l), .slice A (l.length - 4) c]) ∧ l.length - 4 ≤ c ∧ Reads w B 1 A (l.length - 4) (bvs (l.drop 4)))

theorem CutPost.mk {l : List UInt8} {B n c q : Nat} {w : World} {A : Option Addr} {v : Int} (h4 : 4 ≤ (l.length : Int)) (Ha : Hid (num4 l = n)) (hv : v = (n : Int)) (hc : l.length - 4 ≤ c)
    (hr : Reads w B 1 A (l.length - 4) (bvs l |>.drop (4 * 1))) : CutPost l B w (.returned (.tuple #[.int .i64 v, .slice A (l.length - 4) c])) (w.drewN q) := by
  refine ⟨⟨q, rfl⟩, ?_⟩
  rw [if_neg (by omega)]
  refine ⟨A, c, ?_, hc, ?_⟩
  · rw [hv, ← Ha.out]
  · simpa [bvs, List.map_drop] using hr
/-- 8 bytes, or none. -/
def numE (l : List UInt8) : Int := if l.length = 8 then 0 else 2
def numV (l : List UInt8) : Nat := if l.length = 8 then num4 l * 4294967296 + num4 (l.drop 4) else 0
def ReadNumPost (l : List UInt8) (w : World) (e : Ending) (w' : World) : Prop := e = .returned (.tuple #[.int .u64 (numV l), .int .i64 (numE l)]) ∧ ∃ n, w' = w.drewN n
theorem ReadNumPost.no {l : List UInt8} {w : World} {q : Nat} (h : ¬ l.length = 8) : ReadNumPost l w (.returned (.tuple #[.int .u64 0, .int .i64 2])) (w.drewN q) := ⟨by simp [numV, numE, h], q, rfl⟩
theorem ReadNumPost.yes {l : List UInt8} {w : World} {q : Nat} {n : Int} (h : l.length = 8) (hn : n = ((num4 l * 4294967296 + num4 (l.drop 4) : Nat) : Int)) : ReadNumPost l w (.returned (.tuple #[.int .u64 n, .int .i64 0])) (w.drewN q) := ⟨by rw [hn]; simp [numV, numE, h], q, rfl⟩
theorem CutPost.yes {l : List UInt8} {B : Nat} {w w' : World} {e : Ending} (h : CutPost l B w e w') (hl : 4 ≤ l.length) :
    ∃ A c n, w' = w.drewN n ∧ e = .returned (.tuple #[.int .i64 (num4 l), .slice A (l.length - 4) c]) ∧ l.length - 4 ≤ c ∧ Reads w B 1 A (l.length - 4) (bvs (l.drop 4)) := by
  obtain ⟨⟨n, rfl⟩, h⟩ := h
  rw [if_neg (by omega)] at h
  obtain ⟨A, c, h1, h2, h3⟩ := h
  exact ⟨A, c, n, rfl, h1, h2, h3⟩
theorem CutPost.no {l : List UInt8} {B : Nat} {w w' : World} {e : Ending} (h : CutPost l B w e w') (hl : l.length < 4) :
    ∃ n, w' = w.drewN n ∧ e = .returned (.tuple #[.int .i64 (-1), .slice none 0 0]) := by
  obtain ⟨⟨n, rfl⟩, h⟩ := h
  rw [if_pos hl] at h
  exact ⟨n, rfl, h⟩

theorem four_any' (base : Nat) (v : Value) (l : List UInt8) (x : Int) (m : Nat) (hx : x = (m : Int)) (hm : m < 4294967296) (w : World) (hown : Own8 w base v l) (hn : l.length + 4 ≤ 140737488355328) (hb : base ≤ w.heap.size) :
    Calls Tryz.prog 73 #[v, .int .i64 x] w fun e w' => ∃ v', e = .returned v' ∧ Own8 w' base v' (l ++ be4 m) ∧ w.grownBy w' v.ownBlock := by
  subst hx; exact four_any base v l m hm w hown hn hb
def be8 (n : Nat) : List UInt8 := be4 (n / 4294967296) ++ be4 (n % 4294967296)
theorem be8_length (n : Nat) : (be8 n).length = 8 := rfl
set_option maxRecDepth 100000 in
set_option maxHeartbeats 1000000 in
theorem Num_any (n : Nat) (hn : n < 18446744073709551616) (w : World) :
    Calls Tryz.prog 89 #[.int .u64 (n : Int)] w fun e w' => ∃ v, e = .returned v ∧ Own8 w' w.heap.size v (be8 n) ∧ Below w.heap.size w w' := by
  have Hn := Lib.hid hn
  have hn' : (n : Int) ≤ 18446744073709551615 := by omega
  clear hn
  go_enter Tryz.func89, Tryz.ntmps89
  have tok1 : True := trivial
  go_wp2_with (first
    | (go_at_call 73; have _t := tok1; go_must (refine (four_any' w.heap.size _ [] _ (n / 4294967296) (by omega) (by have := Hn.out; omega) _ (own8_nil _ _) (by simp) (Nat.le_refl _)).mono ?_; rintro e w1 ⟨v1, rfl, hown1, hg1⟩; have hb1 := below_own8 (Below.refl _ _) (own8_nil _ _) hg1; clear tok1))
    | (go_at_call 73; go_must (refine (four_any' w.heap.size _ _ _ (n % 4294967296) (by omega) (by omega) _ hown1 (by rw [List.length_append, be4_length]; simp) hb1.size).mono ?_; rintro e w2 ⟨v2, rfl, hown2, hg2⟩; have hb2 := below_own8 hb1 hown1 hg2)))
  go_ret
  exact ⟨_, rfl, hown2, hb2⟩

end Go.Proofs.YtnhdepmalejclaaGreatDoor

namespace Go.Proofs.YtnhdepmalejclaaGreatDoor
open Go.RowKit

def DecPost (l : List UInt8) (w : World) (e : Ending) (w' : World) : Prop := ∃ v, e = .returned (.tuple #[v, .int .i64 (decE l)]) ∧ OwnL w' w.heap.size v (decV l) ∧ Below w.heap.size w w'
theorem DecPost.no {l : List UInt8} {w w' : World} {x : Int} (h : decV l = [] ∧ decE l = x) (hb : Below w.heap.size w w') : DecPost l w (.returned (.tuple #[.slice none 0 0, .int .i64 x])) w' :=
  ⟨_, by rw [h.2], by rw [h.1]; exact OwnL.nil _ _, hb⟩
theorem DecPost.ok {l : List UInt8} {w w' : World} {v : Value} {ls : List (List UInt8)} (h : decV l = ls ∧ decE l = 0) (ho : OwnL w' w.heap.size v ls) (hb : Below w.heap.size w w') : DecPost l w (.returned (.tuple #[v, .int .i64 0])) w' :=
  ⟨_, by rw [h.2], by rw [h.1]; exact ho, hb⟩
theorem below_drewN {B : Nat} {a w : World} (h : Below B a w) (n : Nat) : Below B a (w.drewN n) := ⟨h.os, h.tape, h.output, h.size, h.block⟩
theorem OwnL.drewN {w : World} {base : Nat} {v : Value} {ls : List (List UInt8)} (h : OwnL w base v ls) (n : Nat) : OwnL (w.drewN n) base v ls := h.below (below_drewN (Below.refl _ _) n)

end Go.Proofs.YtnhdepmalejclaaGreatDoor

namespace Go.Proofs.YtnhdepmalejclaaGreatDoor
open Go.RowKit

def numberV (l : List UInt8) (p : Nat) : Int := if l.length < p + 4 then -1 else (num4 (l.drop p) : Int)
def NumberPost (l : List UInt8) (p : Nat) (w : World) (e : Ending) (w' : World) : Prop := e = .returned (.int .i64 (numberV l p)) ∧ ∃ n, w' = w.drewN n
theorem NumberPost.no {l : List UInt8} {p q : Nat} {w : World} (h : (l.length : Int) - 4 < (p : Int)) : NumberPost l p w (.returned (.int .i64 (-1))) (w.drewN q) := ⟨by rw [numberV, if_pos (by omega)], q, rfl⟩
theorem NumberPost.yes {l : List UInt8} {p q n : Nat} {w : World} {v : Int} (h : (p : Int) ≤ (l.length : Int) - 4) (hn : Hid (num4 (l.drop p) = n)) (hv : v = (n : Int)) : NumberPost l p w (.returned (.int .i64 v)) (w.drewN q) :=
  ⟨by rw [numberV, if_neg (by omega), hv, hn.out], q, rfl⟩

end Go.Proofs.YtnhdepmalejclaaGreatDoor

namespace Go.Proofs.YtnhdepmalejclaaGreatDoor
open Go.RowKit

end Go.Proofs.YtnhdepmalejclaaGreatDoor

namespace Go.Proofs.YtnhdepmalejclaaGreatDoor
open Go.RowKit

def AccPost (s : ByteArray) (w : World) (e : Ending) (w' : World) : Prop := e = .returned (.bool (accOK s.data.toList)) ∧ Below w.heap.size w w'
theorem AccPost.mk {s : ByteArray} {w w' : World} {b : Bool} (hb : Below w.heap.size w w') (h : accOK s.data.toList = b) : AccPost s w (.returned (.bool b)) w' := ⟨by rw [h], hb⟩

end Go.Proofs.YtnhdepmalejclaaGreatDoor

namespace Go.Proofs.YtnhdepmalejclaaGreatDoor
open Go.RowKit

end Go.Proofs.YtnhdepmalejclaaGreatDoor
