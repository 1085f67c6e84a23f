/- The walk of the law WireNums. No conditions. -/
import Derived.Test.YtbpgbihcihnieaaW5
import Derived.Test.YtbpgbihcihnieaaW6
import Derived.Test.YtbpgbihcihnieaaArgs
import Derived.Test.YtbpgbihcihnieaaReg2
namespace Go.Proofs.Ytbpgbihcihnieaa
open Go.RowKit
theorem num_be8 (n : Nat) (hn : n < 18446744073709551616) : numV (be8 n) = n ∧ numE (be8 n) = 0 := by
  refine ⟨?_, rfl⟩
  have h1 : num4 (be8 n) = n / 4294967296 := num4_be4 _ _ (by omega)
  have h2 : num4 ((be8 n).drop 4) = n % 4294967296 := by
    have : (be8 n).drop 4 = be4 (n % 4294967296) ++ [] := by simp [be8, be4]
    rw [this]; exact num4_be4 _ _ (by omega)
  unfold numV
  rw [if_pos (be8_length n), h1, h2]; omega
theorem below_drewN' {a w w' : World} {q : Nat} (h : Below (w.drewN q).heap.size (w.drewN q) w') (hs : a.heap.size ≤ w.heap.size) : Below a.heap.size w w' :=
  Below.mono (B := w.heap.size) ⟨h.os, h.tape, h.output, h.size, h.block⟩ hs
set_option maxRecDepth 100000 in
set_option maxHeartbeats 1000000 in
theorem WireNums_walk (v0 v1 : Value) (n : Nat) (l : List UInt8) (w : World) (a0 : ArgU v0 n) (a1 : ArgB w v1 l) :
    Calls Try.prog 5 #[v0, v1] w fun e w' => e = .returned (.bool true) ∧ Below w.heap.size w w' := by
  obtain ⟨rfl, hn⟩ := a0
  obtain ⟨A, c, rfl, hc, hr, hm⟩ := a1
  rw [reach_eq] at hm
  have hx := Lib.hid (num_be8 n hn)
  have Hn := Lib.hid hn
  clear hn
  go_enter Try.func5, Try.ntmps5
  have tok1 : True := trivial
  go_wp2_with (first
    | (go_at_call 12; go_must (refine (awake_any _).mono ?_; rintro e w1 ⟨rfl, hb1⟩))
    | (go_at_call 21; go_must (refine (Num_any n Hn.out _).mono ?_; rintro e w2 ⟨v2, rfl, hown2, hb2'⟩; have hb2 := hb1.trans (hb2'.mono hb1.size); obtain ⟨A2, c2, rfl, hc2, hr2⟩ := own8_form hown2))
    | (go_at_call 20; have _t := tok1; go_must (refine (ReadNum_any A2 c2 _ (be8 n) _ hr2 hc2 (by simp [be8_length])).mono ?_; rintro e w3 ⟨rfl, q3, rfl⟩; rw [hx.out.1, hx.out.2]; clear tok1))
    | (go_at_call 20; go_must (refine (ReadNum_any A c _ l _ ((hr.below hb2).drewN _) hc (by omega)).mono ?_; rintro e w4 ⟨rfl, q4, rfl⟩))
    | (go_at_call 22; go_must (refine (rReadNum_any A c _ l _ ((hr.below hb2).drewN _) (by omega)).mono ?_; rintro e w5 ⟨rfl, q5, rfl⟩)))
  refine Any.start (by kernel_rfl) rfl ?_
  apply Any.take (i := 0) rfl (by kernel_rfl) rfl
  · intro w' hC K hK
    go_wp2
    exact hK
  · rfl
  apply Any.take (i := 1) rfl (by kernel_rfl) rfl
  · intro w' hC K hK
    go_wp2
    exact hK
  · rfl
  apply Any.take (i := 2) rfl (by kernel_rfl) rfl
  · intro w' hC K hK
    go_wp2
    exact hK
  · rfl
  apply Any.take (i := 3) rfl (by kernel_rfl) rfl
  · intro w' hC K hK
    go_wp2
    exact hK
  · rfl
  apply Any.take (i := 4) rfl (by kernel_rfl) rfl
  · intro w' hC K hK
    go_wp2
    exact hK
  · rfl
  apply Any.take (i := 5) rfl (by kernel_rfl) rfl
  · intro w' hC K hK
    go_wp2
    exact hK
  · rfl
  apply Any.take (i := 6) rfl (by kernel_rfl) rfl
  · intro w' hC K hK
    go_wp2
    exact hK
  · rfl
  apply Any.take (i := 7) rfl (by kernel_rfl) rfl
  · intro w' hC K hK
    go_wp2
    exact hK
  · rfl
  apply Any.take (i := 8) rfl (by kernel_rfl) rfl
  · intro w' hC K hK
    go_wp2
    exact hK
  · rfl
  apply Any.take (i := 11) rfl (by kernel_rfl) rfl
  · intro w' hC K hK
    go_wp2
    exact hK
  · rfl
  apply Any.solo (i := 9) rfl (by kernel_rfl)
  intro w6 hC
  go_wp2_with (go_at_call 21; go_must (refine (Num_any n Hn.out _).mono ?_; rintro e w7 ⟨v7, rfl, hown7, hb7⟩; obtain ⟨A7, c7, rfl, hc7, hr7⟩ := own8_form hown7))
  refine ⟨rfl, hC.trans (hb7.mono hC.size), ?_⟩
  apply Any.take (i := 10) rfl (by kernel_rfl) rfl
  · intro w' hC' K hK
    have hs := run_str8 (hr7.below hC') c7
    go_wp2
    exact hK
  · rfl
  apply Any.solo (i := 12) rfl (by kernel_rfl)
  intro w8 hC8
  go_wp2_with (go_at_call 23; go_must (refine (rNum_any n Hn.out _).mono ?_; rintro e w9 ⟨v9, rfl, hown9, hb9⟩; obtain ⟨A9, c9, rfl, hc9, hr9⟩ := own8_form hown9))
  refine ⟨rfl, hC8.trans (hb9.mono hC8.size), ?_⟩
  apply Any.take (i := 13) rfl (by kernel_rfl) rfl
  · intro w' hC' K hK
    have hs := run_str8 (hr9.below hC') c9
    go_wp2
    exact hK
  · rfl
  apply Any.take (i := 14) rfl (by kernel_rfl) rfl
  · intro w' hC K hK
    go_wp2
    exact hK
  · rfl
  apply Any.take (i := 15) rfl (by kernel_rfl) rfl
  · intro w' hC K hK
    go_wp2
    exact hK
  · rfl
  apply Any.take (i := 16) rfl (by kernel_rfl) rfl
  · intro w' hC K hK
    go_wp2
    exact hK
  · rfl
  apply Any.take (i := 17) rfl (by kernel_rfl) rfl
  · intro w' hC K hK
    go_wp2
    exact hK
  · rfl
  apply Any.take (i := 18) rfl (by kernel_rfl) rfl
  · intro w' hC K hK
    go_wp2
    exact hK
  · rfl
  apply Any.take (i := 19) rfl (by kernel_rfl) rfl
  · intro w' hC K hK
    go_wp2
    exact hK
  · rfl
  apply Any.take (i := 20) rfl (by kernel_rfl) rfl
  · intro w' hC K hK
    go_wp2
    exact hK
  · rfl
  apply Any.take (i := 21) rfl (by kernel_rfl) rfl
  · intro w' hC K hK
    go_wp2
    exact hK
  · rfl
  apply Any.take (i := 22) rfl (by kernel_rfl) rfl
  · intro w' hC K hK
    go_wp2
    exact hK
  · rfl
  apply Any.take (i := 23) rfl (by kernel_rfl) rfl
  · intro w' hC K hK
    go_wp2
    exact hK
  · rfl
  apply Any.take (i := 24) rfl (by kernel_rfl) rfl
  · intro w' hC K hK
    go_wp2
    exact hK
  · rfl
  apply Any.take (i := 25) rfl (by kernel_rfl) rfl
  · intro w' hC K hK
    go_wp2
    exact hK
  · rfl
  apply Any.take (i := 26) rfl (by kernel_rfl) rfl
  · intro w' hC K hK
    go_wp2
    exact hK
  · rfl
  refine Any.done (by kernel_rfl) (fun w' hC' => ?_)
  go_wp2
  go_ret
  exact ⟨rfl, hb2.trans (below_drewN' (hC.trans ((hb7.trans ((hC8.trans ((hb9.trans (hC'.mono hb9.size)).mono hC8.size)).mono hb7.size)).mono hC.size)) hb2.size)⟩
end Go.Proofs.Ytbpgbihcihnieaa
