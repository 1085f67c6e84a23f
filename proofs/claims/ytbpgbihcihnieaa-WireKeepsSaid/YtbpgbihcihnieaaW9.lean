/- The walk of the reference's SameList. No conditions. -/
import Derived.Test.YtbpgbihcihnieaaW8
import Derived.BigQuiet
namespace Go.Proofs.Ytbpgbihcihnieaa
open Go.RowKit

def SamePost (ls ms : List (List UInt8)) (w : World) (e : Ending) (w' : World) : Prop := e = .returned (.bool (decide (ls = ms))) ∧ Below w.heap.size w w'
theorem SamePost.no {ls ms : List (List UInt8)} {w w' : World} (h : ¬ ls = ms) (hb : Below w.heap.size w w') : SamePost ls ms w (.returned (.bool false)) w' := ⟨by rw [decide_eq_false h], hb⟩
theorem SamePost.yes {ls ms : List (List UInt8)} {w w' : World} (h : ls = ms) (hb : Below w.heap.size w w') : SamePost ls ms w (.returned (.bool true)) w' := ⟨by rw [decide_eq_true h], hb⟩

set_option maxRecDepth 100000 in
set_option maxHeartbeats 1000000 in
theorem SameList_any (A A2 : Option Addr) (c c2 : Nat) (ls ms : List (List UInt8)) (w : World) (hl : Lists w w.heap.size A ls) (hm : Lists w w.heap.size A2 ms) (hn : ls.length ≤ 140737488355328) (hn2 : ms.length ≤ 140737488355328) :
    Calls Try.prog 26 #[.slice A ls.length c, .slice A2 ms.length c2] w (SamePost ls ms w) := by
  by_cases hlen : ((ls.length : Int) == (ms.length : Int)) = true
  · have hL : ls.length = ms.length := by have := eq_of_beq hlen; omega
    have HL := Lib.hid hL
    clear hL
    go_enter Try.func26, Try.ntmps26
    go_wp2
    go_loopw [13] (fun i wr => ∃ k : Nat, k ≤ ls.length ∧ i = .int .i64 k ∧ Hid (ls.take k = ms.take k) ∧ ∃ q, wr = w.drewN q) (fun i _ => ls.length - (intOf i).toNat)
    case atStart => exact ⟨0, Nat.zero_le _, rfl, rfl, 0, rfl⟩
    case round =>
      obtain ⟨k, hk, rfl, heq, q, rfl⟩ := hrel
      by_cases hlt : k < ls.length
      · obtain ⟨l, b, off, A', c', hlk, rfl, hb, hcell, hc', hr⟩ := hl.at_ k hlt
        obtain ⟨m, b2, off2, A2', c2', hmk, rfl, hb2, hcell2, hc2', hr2⟩ := hm.at_ k (by have := HL.out; omega)
        have hlt' : (k : Int) < (ls.length : Int) := by omega
        have hlt2 : (k : Int) < (ms.length : Int) := by have := HL.out; omega
        have hs := fun q => run_str8 (hr.drewN q) c'
        have hs2 := fun q => run_str8 (hr2.drewN q) c2'
        by_cases he : l = m
        · subst he
          go_wp2
          go_quiet (fail)
          go_wp2
          go_roundw
          case rel => exact ⟨k + 1, by omega, by go_num, by have := heq.out; refine Lib.hid ?_; rw [List.take_succ_eq_append_getElem hlt, List.take_succ_eq_append_getElem (by have := HL.out; omega), this, hlk.out, hmk.out], _, rfl⟩
          case measure => simp [intOf]; omega
        · have hne : (!l == m) = true := by simp [he]
          go_wp2
          go_quiet (fail)
          go_wp2
          go_ret
          exact SamePost.no (fun e => he (by rw [← hlk.out, ← hmk.out]; subst e; rfl)) (below_drewN (below_drewN (Below.refl _ _) _) _)
      · go_wp2
        go_ret
        exact SamePost.yes (by have := heq.out; have hk : k = ls.length := by omega
                               subst hk; rw [List.take_length, HL.out, List.take_length] at this; exact this) (below_drewN (Below.refl _ _) _)
  · have hlen' : ((ls.length : Int) == (ms.length : Int)) = false := by simpa using hlen
    have hL : ¬ ls = ms := fun e => hlen (by subst e; simp)
    clear hlen
    go_enter Try.func26, Try.ntmps26
    go_wp2
    go_ret
    exact SamePost.no hL (Below.refl _ _)
end Go.Proofs.Ytbpgbihcihnieaa
