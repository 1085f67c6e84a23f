/- The texts W7 W8 W9 of this work, merged by wip/merge.py. No conditions. -/
import Derived.Test.YtnkcnnmhgomphaaDoorQW
import Derived.Lib.SliceRun
import Derived.BigQuiet
namespace Go.Proofs.YtnkcnnmhgomphaaDoor
open Go.RowKit

def ClonePost (l : List UInt8) (w : World) (e : Ending) (w' : World) : Prop := ∃ v, e = .returned v ∧ Own8 w' w.heap.size v l ∧ Below w.heap.size w w'
set_option maxRecDepth 100000 in
set_option maxHeartbeats 1000000 in
theorem Clone_any (A : Option Addr) (n c : Nat) (l : List UInt8) (w : World) (hr : Reads w w.heap.size 1 A n (bvs l)) (hm : n ≤ 140737488355328) :
    Calls Tryd.prog 27 #[.slice A n c] w (ClonePost l w) := by
  have heq := fun (w : World) => Lib.run_eql_slice_nil (P := Tryd.prog) w 48 5 A n c 0 0 Tryd.underlying48
  cases A with
  | none =>
    have hl : l = [] := by
      have h1 := hr.1
      rw [bvs_length] at h1
      cases l with
      | nil => rfl
      | cons a l => obtain ⟨_, h, _⟩ := hr.2 (by simp at h1; omega); cases h
    subst hl
    go_enter Tryd.func27, Tryd.ntmps27
    go_wp2
    go_ret
    exact ⟨_, rfl, own8_nil _ _, Below.refl _ _⟩
  | some ad =>
    go_enter Tryd.func27, Tryd.ntmps27
    go_wp2_with (at_builtin; go_must (refine app8 rfl rfl rfl rfl (own8_zero w w.heap.size (Nat.le_refl _)) (hr.alloc (Nat.le_refl _) _) (by simp; omega) (by simp) ?_; intro v1 w1 hown1 hg1 hx1; have hb1 : Below w.heap.size w w1 := below_own8 ((Below.refl _ _).alloc (Nat.le_refl _) _) (own8_zero w w.heap.size (Nat.le_refl _)) hg1; simp only [List.nil_append] at hown1))
    go_ret
    exact ⟨_, rfl, hown1, hb1⟩
def DecPost (l : List UInt8) (w : World) (e : Ending) (w' : World) : Prop := ∃ v, e = .returned (.tuple #[v, .int .i64 (decE l)]) ∧ OwnL w' w.heap.size v (decV l) ∧ Below w.heap.size w w'
theorem DecPost.no {l : List UInt8} {w w' : World} {x : Int} (h : decV l = [] ∧ decE l = x) (hb : Below w.heap.size w w') : DecPost l w (.returned (.tuple #[.slice none 0 0, .int .i64 x])) w' :=
  ⟨_, by rw [h.2], by rw [h.1]; exact OwnL.nil _ _, hb⟩
theorem DecPost.ok {l : List UInt8} {w w' : World} {v : Value} {ls : List (List UInt8)} (h : decV l = ls ∧ decE l = 0) (ho : OwnL w' w.heap.size v ls) (hb : Below w.heap.size w w') : DecPost l w (.returned (.tuple #[v, .int .i64 0])) w' :=
  ⟨_, by rw [h.2], by rw [h.1]; exact ho, hb⟩
theorem take8 {w : World} {B n x : Nat} {A : Option Addr} {l : List UInt8} (h : Reads w B 1 A n (bvs l)) (hx : x ≤ n) : Reads w B 1 A x (bvs (l.take x)) := by
  have := h.take hx
  rw [Nat.mul_one] at this
  simpa [bvs, List.map_take] using this
theorem take8_len {w : World} {B n x : Nat} {A : Option Addr} {l : List UInt8} (h : Reads w B 1 A n (bvs l)) (hx : x ≤ n) : (l.take x).length = x := by
  have := h.1
  rw [bvs_length] at this
  rw [List.length_take]; omega
theorem drop8 {w : World} {B n x c : Nat} {A : Option Addr} {l : List UInt8} (h : Reads w B 1 A n (bvs l)) (hx : x ≤ n) (hc : n ≤ c) : Reads w B 1 (if c = x then A else A.map (·.add x)) (n - x) (bvs (l.drop x)) := by
  have := h.cut hx hc
  rw [Nat.mul_one] at this
  simpa [bvs, List.map_drop] using this
theorem below_of_drewN {w w' : World} {n : Nat} (h : Below (w.drewN n).heap.size (w.drewN n) w') : Below w.heap.size w w' := ⟨h.os, h.tape, h.output, h.size, h.block⟩
theorem below_drewN {B : Nat} {a w : World} (h : Below B a w) (n : Nat) : Below B a (w.drewN n) := ⟨h.os, h.tape, h.output, h.size, h.block⟩
theorem OwnL.drewN {w : World} {base : Nat} {v : Value} {ls : List (List UInt8)} (h : OwnL w base v ls) (n : Nat) : OwnL (w.drewN n) base v ls := h.below (below_drewN (Below.refl _ _) n)

set_option maxRecDepth 100000 in
set_option maxHeartbeats 2000000 in
theorem Decode_any (A : Option Addr) (c : Nat) (l : List UInt8) (w : World) (hr : Reads w w.heap.size 1 A l.length (bvs l)) (hc : l.length ≤ c) (hm : l.length ≤ 140737488355328) :
    Calls Tryd.prog 28 #[.slice A l.length c] w (DecPost l w) := by
  by_cases h1 : 1048576 < (l.length : Int)
  · go_enter Tryd.func28, Tryd.ntmps28
    go_wp2
    go_ret2
    exact DecPost.no (dec_large (by omega)) (Below.refl _ _)
  · by_cases h4 : l.length < 4
    · go_enter Tryd.func28, Tryd.ntmps28
      go_wp2_with (go_at_call 39; go_must (refine (cut_any A c _ l _ hr hc hm).mono ?_; intro e w1 hp; obtain ⟨n1, rfl, rfl⟩ := hp.no h4; clear hp))
      go_ret2
      exact DecPost.no (dec_short (by omega) h4) (below_drewN (Below.refl _ _) _)
    · have H1 := Lib.hid h1
      have H4 := Lib.hid h4
      obtain ⟨N, hN⟩ : ∃ N, N = num4 l := ⟨_, rfl⟩
      obtain ⟨m1, hm1⟩ : ∃ m, m + 4 = l.length := ⟨l.length - 4, by omega⟩
      have HN := Lib.hid hN
      have HM := Lib.hid hm1
      clear h4 hN hm1
      have hn0 : (0 : Int) ≤ (N : Int) := by omega
      by_cases hbig : 65536 < (N : Int)
      · go_enter Tryd.func28, Tryd.ntmps28
        go_wp2_with (go_at_call 39; go_must (refine (cut_any A c _ l _ hr hc hm).mono ?_; intro e w1 hp; obtain ⟨A1, c1, n1, rfl, rfl, hc1, hr1⟩ := hp.get HN.out HM.out; clear hp))
        go_ret2
        exact DecPost.no (dec_many (by omega) H4.out (by rw [← HN.out]; omega)) (below_drewN (Below.refl _ _) _)
      · go_enter Tryd.func28, Tryd.ntmps28
        go_wp2_with (go_at_call 39; go_must (refine (cut_any A c _ l _ hr hc hm).mono ?_; intro e w1 hp; obtain ⟨A1, c1, n1, rfl, rfl, hc1, hr1⟩ := hp.get HN.out HM.out; clear hp))
        go_loopw [0, 5, 22] (fun b v i wr => ∃ (k m : Nat) (ls : List (List UInt8)) (r : List UInt8) (A : Option Addr) (c : Nat), k ≤ N ∧ i = .int .i64 k ∧ b = .slice A m c ∧ m ≤ c ∧ m ≤ 1048576 ∧ Hid (r.length = m) ∧ Reads wr w.heap.size 1 A m (bvs r) ∧ Hid (memI k (l.drop 4) = some (ls, r)) ∧ OwnL wr w.heap.size v ls ∧ Below w.heap.size w wr) (fun _ _ i _ => N - (intOf i).toNat)
        case atStart => exact ⟨0, m1, [], l.drop 4, A1, c1, Nat.zero_le _, rfl, rfl, hc1, by have := HM.out; omega, by have := HM.out; rw [List.length_drop]; exact (by omega : l.length - 4 = m1), hr1.drewN _, rfl, (OwnL.nil _ _), below_drewN (Below.refl _ _) _⟩
        case round =>
          obtain ⟨k, m, ls, r, A2, c2, hk, rfl, rfl, hc2, hml, hrl, hr2, hmem, hown, hbw⟩ := hrel
          by_cases hlt : k < N
          · by_cases hs4 : m < 4
            · go_wp2_with (go_at_call 39; go_must (refine (cut_any' A2 m c2 _ r _ hrl.out hr2 hc2 (by omega)).mono ?_; intro e w2 hp; obtain ⟨n2, rfl, rfl⟩ := hp.no (by have := hrl.out; omega); clear hp))
              go_ret2
              exact DecPost.no (dec_fail (by omega) H4.out (by have := HN.out; omega) (memI_fail hmem.out (one_no1 (by have := hrl.out; omega)) (by have := HN.out; omega))) (below_drewN hbw _)
            · obtain ⟨x, hx⟩ : ∃ x, x = num4 r := ⟨_, rfl⟩
              obtain ⟨m3, hm3⟩ : ∃ m3, m3 + 4 = m := ⟨m - 4, by omega⟩
              have HX := Lib.hid hx
              have HM3 := Lib.hid hm3
              have hx0 : (0 : Int) ≤ (x : Int) := by omega
              have hx1 : (x : Int) ≤ 4294967295 := by have := num4_lt r; omega
              clear hx hm3 hs4
              by_cases hov : (m3 : Int) < (x : Int)
              · go_wp2_with (go_at_call 39; go_must (refine (cut_any' A2 m c2 _ r _ hrl.out hr2 hc2 (by omega)).mono ?_; intro e w2 hp; obtain ⟨A3, c3, n3, rfl, rfl, hc3, hr3⟩ := hp.get HX.out (HM3.out.trans hrl.out.symm); clear hp))
                go_ret2
                exact DecPost.no (dec_fail (by omega) H4.out (by have := HN.out; omega) (memI_fail hmem.out (one_no2 (by have := hrl.out; have := HX.out; have := HM3.out; omega)) (by have := HN.out; omega))) (below_drewN hbw _)
              · have hxc : x ≤ m3 := by omega
                obtain ⟨X, hX⟩ : ∃ X, X = (r.drop 4).take x := ⟨_, rfl⟩
                have HXX := Lib.hid hX
                clear hX
                go_wp2_with (first
                  | (go_at_call 39; go_must (refine (cut_any' A2 m c2 _ r _ hrl.out hr2 hc2 (by omega)).mono ?_; intro e w2 hp; obtain ⟨A3, c3, n3, rfl, rfl, hc3, hr3⟩ := hp.get HX.out (HM3.out.trans hrl.out.symm); clear hp))
                  | (go_at_call 27; go_must (refine (Clone_any A3 x c3 X _ (by rw [HXX.out]; exact take8 ((hr3.drewN n3).more hbw.size) hxc) (by omega)).mono ?_; rintro e w4 ⟨v4, rfl, hown4, hb4⟩; have hb4' : Below wr.heap.size wr w4 := below_of_drewN hb4; obtain ⟨A4, c4, rfl, hc4, _⟩ := own8_form' (n := x) hown4 (by rw [HXX.out]; exact take8_len hr3 hxc)))
                  | (at_builtin; go_must (refine appL rfl rfl rfl rfl hown (by rw [cell_new]; rfl) (hb4'.alloc hb4'.size _) (own8_below hown4 ((Below.refl _ _).alloc (Nat.le_refl _) _)) (by have := memI_length hmem.out; omega) hbw.size ?_; intro v5 w5 hown5 hg5; have hb5 := below_ownL (hbw.trans ((hb4'.alloc hb4'.size _).mono hbw.size)) (hown.below (hb4'.alloc hb4'.size _)) hg5; have hr5 := hr3.via hbw hb5)))
                go_roundw
                case rel => exact ⟨k + 1, m3 - x, ls ++ [X], (r.drop 4).drop x, _, _, by omega, by go_num, rfl, by omega, by have := HM3.out; omega, (by have := hrl.out; have := HM3.out; show ((r.drop 4).drop x).length = m3 - x; rw [List.length_drop, List.length_drop]; omega), drop8 hr5 hxc hc3, (by rw [HXX.out, HX.out]; exact memI_succ hmem.out (one_yes (by have := hrl.out; have := HM3.out; omega) (by have := hrl.out; have := HM3.out; have := HX.out; omega))), hown5, hb5⟩
                case measure => simp [intOf]; omega
          · obtain rfl : k = N := by omega
            by_cases hz : (0 : Int) < (m : Int)
            · go_wp2
              go_ret2
              exact DecPost.no (dec_rest (by omega) H4.out (by have := HN.out; omega) (by rw [← HN.out]; exact hmem.out) (by have := hrl.out; omega)) hbw
            · go_wp2
              go_ret2
              exact DecPost.ok (dec_ok (by omega) H4.out (by have := HN.out; omega) (by rw [← HN.out]; exact hmem.out) (by have := hrl.out; omega)) hown hbw
end Go.Proofs.YtnkcnnmhgomphaaDoor

namespace Go.Proofs.YtnkcnnmhgomphaaDoor
open Go.RowKit

def numberV (l : List UInt8) (p : Nat) : Int := if l.length < p + 4 then -1 else (num4 (l.drop p) : Int)
def NumberPost (l : List UInt8) (p : Nat) (w : World) (e : Ending) (w' : World) : Prop := e = .returned (.int .i64 (numberV l p)) ∧ ∃ n, w' = w.drewN n
theorem NumberPost.no {l : List UInt8} {p q : Nat} {w : World} (h : (l.length : Int) - 4 < (p : Int)) : NumberPost l p w (.returned (.int .i64 (-1))) (w.drewN q) := ⟨by rw [numberV, if_pos (by omega)], q, rfl⟩
theorem NumberPost.yes {l : List UInt8} {p q n : Nat} {w : World} {v : Int} (h : (p : Int) ≤ (l.length : Int) - 4) (hn : Hid (num4 (l.drop p) = n)) (hv : v = (n : Int)) : NumberPost l p w (.returned (.int .i64 v)) (w.drewN q) :=
  ⟨by rw [numberV, if_neg (by omega), hv, hn.out], q, rfl⟩

theorem numberV_no {l : List UInt8} {p : Nat} (h : l.length < p + 4) : numberV l p = -1 := by rw [numberV, if_pos h]
theorem numberV_yes {l : List UInt8} {p x : Nat} (h : ¬ l.length < p + 4) (hx : num4 (l.drop p) = x) : numberV l p = (x : Int) := by rw [numberV, if_neg h, hx]
theorem sub8 {w : World} {B n lo hi c : Nat} {A : Option Addr} {l : List UInt8} (h : Reads w B 1 A n (bvs l)) (hlo : lo ≤ hi) (hhi : hi ≤ n) (hc : n ≤ c) : Reads w B 1 (if c = lo then A else A.map (·.add lo)) (hi - lo) (bvs ((l.drop lo).take (hi - lo))) :=
  take8 (drop8 h (by omega) hc) (by omega)

end Go.Proofs.YtnkcnnmhgomphaaDoor

namespace Go.Proofs.YtnkcnnmhgomphaaDoor
open Go.RowKit

def SamePost (ls ms : List (List UInt8)) (w : World) (e : Ending) (w' : World) : Prop := e = .returned (.bool (decide (ls = ms))) ∧ Below w.heap.size w w'
theorem SamePost.no {ls ms : List (List UInt8)} {w w' : World} (h : ¬ ls = ms) (hb : Below w.heap.size w w') : SamePost ls ms w (.returned (.bool false)) w' := ⟨by rw [decide_eq_false h], hb⟩
theorem SamePost.yes {ls ms : List (List UInt8)} {w w' : World} (h : ls = ms) (hb : Below w.heap.size w w') : SamePost ls ms w (.returned (.bool true)) w' := ⟨by rw [decide_eq_true h], hb⟩

end Go.Proofs.YtnkcnnmhgomphaaDoor
