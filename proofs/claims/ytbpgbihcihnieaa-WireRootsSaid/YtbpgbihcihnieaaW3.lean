/- The walk of copyList. No conditions. -/
import Derived.Test.YtbpgbihcihnieaaLst
import Derived.Test.YtbpgbihcihnieaaW1
namespace Go.Proofs.Ytbpgbihcihnieaa
open Go.RowKit

def CopyPost (ls : List (List UInt8)) (w : World) (e : Ending) (w' : World) : Prop := ∃ v, e = .returned v ∧ OwnL w' w.heap.size v ls ∧ Below w.heap.size w w'

set_option maxRecDepth 100000 in
set_option maxHeartbeats 1000000 in
theorem copyList_any (A : Option Addr) (c : Nat) (ls : List (List UInt8)) (w : World) (hl : Lists w w.heap.size A ls) (hn : ls.length * 24 ≤ 140737488351232) (hm : ∀ l ∈ ls, l.length ≤ 140737488351232) :
    Calls Try.prog 15 #[.slice A ls.length c] w (CopyPost ls w) := by
  go_enter Try.func15, Try.ntmps15
  go_wp2
  go_loopw [3, 7] (fun v i wr => ∃ k : Nat, k ≤ ls.length ∧ i = .int .i64 k ∧ OwnL wr w.heap.size v (ls.take k) ∧ Below w.heap.size w wr) (fun _ i _ => ls.length - (intOf i).toNat)
  case atStart => exact ⟨0, Nat.zero_le _, rfl, OwnL.nil _ _, Below.refl _ _⟩
  case round =>
    obtain ⟨k, hk, rfl, hown, hbw⟩ := hrel
    by_cases hlt : k < ls.length
    · obtain ⟨l, b, off, A', c', hlk, rfl, hb, hcell, hc', hr⟩ := hl.at_b hbw k hlt
      have hml := hm l (by rw [← hlk.out]; exact List.getElem_mem hlt)
      have hts := Lib.hid (List.take_succ_eq_append_getElem hlt)
      have hbz : b < wr.heap.size := Nat.lt_of_lt_of_le hb hbw.size
      have tok1 : True := trivial
      go_wp2_with (first
        | (at_builtin; have _t := tok1; go_must (refine app8 rfl rfl rfl rfl (own8_zero wr wr.heap.size (Nat.le_refl _)) (hr.below (hbw.alloc hbw.size _)) (by simp; omega) (by simp) ?_; intro v1 w1 hown1 hg1 hx1; have hb1 : Below wr.heap.size wr w1 := below_own8 ((Below.refl _ _).alloc (Nat.le_refl _) _) (own8_zero wr wr.heap.size (Nat.le_refl _)) hg1; clear tok1; simp only [List.nil_append] at hown1; obtain ⟨A1, c1, rfl, hc1, _⟩ := own8_form hown1))
        | (at_builtin; go_must (refine appL rfl rfl rfl rfl hown (by rw [cell_new]; rfl) (hb1.alloc hb1.size _) (own8_below hown1 ((Below.refl _ _).alloc (Nat.le_refl _) _)) (by rw [List.length_take]; omega) hbw.size ?_; intro v2 w2 hown2 hg2; have hb2 := below_ownL (hbw.trans ((hb1.alloc hb1.size _).mono hbw.size)) (hown.below (hb1.alloc hb1.size _)) hg2)))
      go_roundw
      case rel => exact ⟨k + 1, by omega, by go_num, by rw [hts.out, hlk.out]; exact hown2, hb2⟩
      case measure => simp [intOf]; omega
    · obtain rfl : k = ls.length := by omega
      go_wp2
      go_ret
      exact ⟨_, rfl, by simpa using hown, hbw⟩
end Go.Proofs.Ytbpgbihcihnieaa
