/- The texts W7 W8 W9 of this work, merged by wip/merge.py. No conditions. -/
import Derived.Test.YtmjlneehjlpdlaaDoorQW
import Derived.Lib.SliceRun
import Derived.BigQuiet
namespace Go.Proofs.YtmjlneehjlpdlaaDoor
open Go.RowKit

def ClonePost (l : List UInt8) (w : World) (e : Ending) (w' : World) : Prop := ∃ v, e = .returned v ∧ Own8 w' w.heap.size v l ∧ Below w.heap.size w w'
set_option maxRecDepth 100000 in
set_option maxHeartbeats 1000000 in
theorem Clone_any (A : Option Addr) (n c : Nat) (l : List UInt8) (w : World) (hr : Reads w w.heap.size 1 A n (bvs l)) (hm : n ≤ 140737488355328) :
    Calls Tryd.prog 22 #[.slice A n c] w (ClonePost l w) := by
  have heq := fun (w : World) => Lib.run_eql_slice_nil (P := Tryd.prog) w 31 5 A n c 0 0 Tryd.underlying31
  cases A with
  | none =>
    have hl : l = [] := by
      have h1 := hr.1
      rw [bvs_length] at h1
      cases l with
      | nil => rfl
      | cons a l => obtain ⟨_, h, _⟩ := hr.2 (by simp at h1; omega); cases h
    subst hl
    go_enter Tryd.func22, Tryd.ntmps22
    go_wp2
    go_ret
    exact ⟨_, rfl, own8_nil _ _, Below.refl _ _⟩
  | some ad =>
    go_enter Tryd.func22, Tryd.ntmps22
    go_wp2_with (at_builtin; go_must (refine app8 rfl rfl rfl rfl (own8_zero w w.heap.size (Nat.le_refl _)) (hr.alloc (Nat.le_refl _) _) (by simp; omega) (by simp) ?_; intro v1 w1 hown1 hg1 hx1; have hb1 : Below w.heap.size w w1 := below_own8 ((Below.refl _ _).alloc (Nat.le_refl _) _) (own8_zero w w.heap.size (Nat.le_refl _)) hg1; simp only [List.nil_append] at hown1))
    go_ret
    exact ⟨_, rfl, hown1, hb1⟩
def DecPost (l : List UInt8) (w : World) (e : Ending) (w' : World) : Prop := ∃ v, e = .returned (.tuple #[v, .int .i64 (decE l)]) ∧ OwnL w' w.heap.size v (decV l) ∧ Below w.heap.size w w'
theorem DecPost.no {l : List UInt8} {w w' : World} {x : Int} (h : decV l = [] ∧ decE l = x) (hb : Below w.heap.size w w') : DecPost l w (.returned (.tuple #[.slice none 0 0, .int .i64 x])) w' :=
  ⟨_, by rw [h.2], by rw [h.1]; exact OwnL.nil _ _, hb⟩
theorem DecPost.ok {l : List UInt8} {w w' : World} {v : Value} {ls : List (List UInt8)} (h : decV l = ls ∧ decE l = 0) (ho : OwnL w' w.heap.size v ls) (hb : Below w.heap.size w w') : DecPost l w (.returned (.tuple #[v, .int .i64 0])) w' :=
  ⟨_, by rw [h.2], by rw [h.1]; exact ho, hb⟩
theorem take8 {w : World} {B n x : Nat} {A : Option Addr} {l : List UInt8} (h : Reads w B 1 A n (bvs l)) (hx : x ≤ n) : Reads w B 1 A x (bvs (l.take x)) := by
  have := h.take hx
  rw [Nat.mul_one] at this
  simpa [bvs, List.map_take] using this
theorem take8_len {w : World} {B n x : Nat} {A : Option Addr} {l : List UInt8} (h : Reads w B 1 A n (bvs l)) (hx : x ≤ n) : (l.take x).length = x := by
  have := h.1
  rw [bvs_length] at this
  rw [List.length_take]; omega
theorem drop8 {w : World} {B n x c : Nat} {A : Option Addr} {l : List UInt8} (h : Reads w B 1 A n (bvs l)) (hx : x ≤ n) (hc : n ≤ c) : Reads w B 1 (if c = x then A else A.map (·.add x)) (n - x) (bvs (l.drop x)) := by
  have := h.cut hx hc
  rw [Nat.mul_one] at this
  simpa [bvs, List.map_drop] using this
theorem below_of_drewN {w w' : World} {n : Nat} (h : Below (w.drewN n).heap.size (w.drewN n) w') : Below w.heap.size w w' := ⟨h.os, h.tape, h.output, h.size, h.block⟩
theorem below_drewN {B : Nat} {a w : World} (h : Below B a w) (n : Nat) : Below B a (w.drewN n) := ⟨h.os, h.tape, h.output, h.size, h.block⟩
theorem OwnL.drewN {w : World} {base : Nat} {v : Value} {ls : List (List UInt8)} (h : OwnL w base v ls) (n : Nat) : OwnL (w.drewN n) base v ls := h.below (below_drewN (Below.refl _ _) n)

end Go.Proofs.YtmjlneehjlpdlaaDoor

namespace Go.Proofs.YtmjlneehjlpdlaaDoor
open Go.RowKit

def numberV (l : List UInt8) (p : Nat) : Int := if l.length < p + 4 then -1 else (num4 (l.drop p) : Int)
def NumberPost (l : List UInt8) (p : Nat) (w : World) (e : Ending) (w' : World) : Prop := e = .returned (.int .i64 (numberV l p)) ∧ ∃ n, w' = w.drewN n
theorem NumberPost.no {l : List UInt8} {p q : Nat} {w : World} (h : (l.length : Int) - 4 < (p : Int)) : NumberPost l p w (.returned (.int .i64 (-1))) (w.drewN q) := ⟨by rw [numberV, if_pos (by omega)], q, rfl⟩
theorem NumberPost.yes {l : List UInt8} {p q n : Nat} {w : World} {v : Int} (h : (p : Int) ≤ (l.length : Int) - 4) (hn : Hid (num4 (l.drop p) = n)) (hv : v = (n : Int)) : NumberPost l p w (.returned (.int .i64 v)) (w.drewN q) :=
  ⟨by rw [numberV, if_neg (by omega), hv, hn.out], q, rfl⟩

theorem numberV_no {l : List UInt8} {p : Nat} (h : l.length < p + 4) : numberV l p = -1 := by rw [numberV, if_pos h]
theorem numberV_yes {l : List UInt8} {p x : Nat} (h : ¬ l.length < p + 4) (hx : num4 (l.drop p) = x) : numberV l p = (x : Int) := by rw [numberV, if_neg h, hx]
theorem sub8 {w : World} {B n lo hi c : Nat} {A : Option Addr} {l : List UInt8} (h : Reads w B 1 A n (bvs l)) (hlo : lo ≤ hi) (hhi : hi ≤ n) (hc : n ≤ c) : Reads w B 1 (if c = lo then A else A.map (·.add lo)) (hi - lo) (bvs ((l.drop lo).take (hi - lo))) :=
  take8 (drop8 h (by omega) hc) (by omega)

end Go.Proofs.YtmjlneehjlpdlaaDoor

namespace Go.Proofs.YtmjlneehjlpdlaaDoor
open Go.RowKit

def SamePost (ls ms : List (List UInt8)) (w : World) (e : Ending) (w' : World) : Prop := e = .returned (.bool (decide (ls = ms))) ∧ Below w.heap.size w w'
theorem SamePost.no {ls ms : List (List UInt8)} {w w' : World} (h : ¬ ls = ms) (hb : Below w.heap.size w w') : SamePost ls ms w (.returned (.bool false)) w' := ⟨by rw [decide_eq_false h], hb⟩
theorem SamePost.yes {ls ms : List (List UInt8)} {w w' : World} (h : ls = ms) (hb : Below w.heap.size w w') : SamePost ls ms w (.returned (.bool true)) w' := ⟨by rw [decide_eq_true h], hb⟩

set_option maxRecDepth 100000 in
set_option maxHeartbeats 1000000 in
theorem SameList_any (A A2 : Option Addr) (c c2 : Nat) (ls ms : List (List UInt8)) (w : World) (hl : Lists w w.heap.size A ls) (hm : Lists w w.heap.size A2 ms) (hn : ls.length ≤ 140737488355328) (hn2 : ms.length ≤ 140737488355328) :
    Calls Tryd.prog 11 #[.slice A ls.length c, .slice A2 ms.length c2] w (SamePost ls ms w) := by
  by_cases hlen : ((ls.length : Int) == (ms.length : Int)) = true
  · have hL : ls.length = ms.length := by have := eq_of_beq hlen; omega
    have HL := Lib.hid hL
    clear hL
    go_enter Tryd.func11, Tryd.ntmps11
    go_wp2
    go_loopw [13] (fun i wr => ∃ k : Nat, k ≤ ls.length ∧ i = .int .i64 k ∧ Hid (ls.take k = ms.take k) ∧ ∃ q, wr = w.drewN q) (fun i _ => ls.length - (intOf i).toNat)
    case atStart => exact ⟨0, Nat.zero_le _, rfl, rfl, 0, rfl⟩
    case round =>
      obtain ⟨k, hk, rfl, heq, q, rfl⟩ := hrel
      by_cases hlt : k < ls.length
      · obtain ⟨l, b, off, A', c', hlk, rfl, hb, hcell, hc', hr⟩ := hl.at_ k hlt
        obtain ⟨m, b2, off2, A2', c2', hmk, rfl, hb2, hcell2, hc2', hr2⟩ := hm.at_ k (by have := HL.out; omega)
        have hlt' : (k : Int) < (ls.length : Int) := by omega
        have hlt2 : (k : Int) < (ms.length : Int) := by have := HL.out; omega
        have hs := fun q => run_str8 (hr.drewN q) c'
        have hs2 := fun q => run_str8 (hr2.drewN q) c2'
        by_cases he : l = m
        · subst he
          go_wp2
          go_quiet (fail)
          go_wp2
          go_roundw
          case rel => exact ⟨k + 1, by omega, by go_num, by have := heq.out; refine Lib.hid ?_; rw [List.take_succ_eq_append_getElem hlt, List.take_succ_eq_append_getElem (by have := HL.out; omega), this, hlk.out, hmk.out], _, rfl⟩
          case measure => simp [intOf]; omega
        · have hne : (!l == m) = true := by simp [he]
          go_wp2
          go_quiet (fail)
          go_wp2
          go_ret
          exact SamePost.no (fun e => he (by rw [← hlk.out, ← hmk.out]; subst e; rfl)) (below_drewN (below_drewN (Below.refl _ _) _) _)
      · go_wp2
        go_ret
        exact SamePost.yes (by have := heq.out; have hk : k = ls.length := by omega
                               subst hk; rw [List.take_length, HL.out, List.take_length] at this; exact this) (below_drewN (Below.refl _ _) _)
  · have hlen' : ((ls.length : Int) == (ms.length : Int)) = false := by simpa using hlen
    have hL : ¬ ls = ms := fun e => hlen (by subst e; simp)
    clear hlen
    go_enter Tryd.func11, Tryd.ntmps11
    go_wp2
    go_ret
    exact SamePost.no hL (Below.refl _ _)
end Go.Proofs.YtmjlneehjlpdlaaDoor
