/- The law LimitApart. No conditions. -/
import Derived.Test.YtkbbelbcjokncaaLApart0
import Derived.Test.YtkbbelbcjokncaaStr8
import Derived.Test.YtkbbelbcjokncaaReg4
import Derived.Test.YtkbbelbcjokncaaArgAsks
import Derived.Test.YtkbbelbcjokncaaArgBytes
namespace Go.Proofs.Ytkbbelbcjokncaa
open Go.RowKit
set_option maxRecDepth 100000 in
set_option maxHeartbeats 2000000 in
theorem LimitApart_any (ak : List (ByteArray × Int)) (os : List UInt8) (w : World) {A A' : Option Addr} {c c' : Nat} (hmax : ak.length ≤ 9223372036854775807)
    (has : ∀ i q, ak[i]? = some q → AskAt w w.heap.size A i q ∧ q.1.size ≤ maxLen ∧ -9223372036854775808 ≤ q.2 ∧ q.2 ≤ 9223372036854775807) (hos : Reads w w.heap.size 1 A' os.length (bvs os)) :
    Calls Try.prog 3 #[.slice A ak.length c, .slice A' os.length c'] w fun e w' => e = .returned (.bool true) ∧ Below w.heap.size w w' := by
  have Hmx : ∀ k, k < ak.length → (k : Int) + 1 ≤ 9223372036854775807 := fun k hk => by omega
  have Has := Lib.hid has
  have Hos := Lib.hid hos
  clear hmax has hos
  go_enter Try.func3, Try.ntmps3
  go_wp2_with (first
    | (go_at_call 8; go_must (refine (awake_any _).mono ?_; rintro e w0 ⟨rfl, hbw⟩; have Hbw := Lib.hid hbw; clear hbw))
    | (go_at_call 9; (have hx_ := H1; refine (New_two H1.out 5 2 (by omega) (by omega) (by omega) (by omega)).mono ?_; rintro e w2 ⟨gb, mb, rfl, h2⟩; have H2 := Lib.hid h2; clear h2))
    | (go_at_call 9; (refine (New_tk (w0 := w) 5 2 (by omega) (by omega) (by omega) (by omega) Hbw.out).mono ?_; rintro e w1 ⟨ga, ma, rfl, h1⟩; have H1 := Lib.hid h1; clear h1)))
  go_loopw [24] (fun i wr => ∃ (k : Nat) (ta tb : LT), k ≤ ak.length ∧ i = .int .i64 k ∧ Hid (Apt ta tb) ∧ Hid (TK2 w wr ga ma ta gb mb tb)) (fun i _ => ak.length - (intOf i).toNat)
  case atStart => exact ⟨0, _, _, Nat.zero_le _, rfl, Apt.start, H2.out⟩
  case round =>
    obtain ⟨k, ta, tb, hk, rfl, hI, hT⟩ := hrel
    clear H1 H2
    by_cases hlt : k < ak.length
    · have hlt' : (k : Int) < (ak.length : Int) := by omega
      have hk0 : (0 : Int) ≤ (k : Int) := by omega
      obtain ⟨q, hq⟩ : ∃ q, ak[k]? = some q := ⟨_, List.getElem?_eq_getElem hlt⟩
      obtain ⟨⟨b, off, rfl, hb, hcs, hcn⟩, hqs, hqn⟩ := Has.out k q hq
      have hnow : ∀ w', Below w.heap.size w w' → w'.cell? ⟨b, off + k * 2 + 1, none⟩ = some (.int .i64 q.2) := fun w' hC => by rw [Nat.add_assoc]; exact (hC.cell (p := ⟨b, off + (k * 2 + 1), none⟩) hb).trans hcn
      have Hnow := Lib.hid hnow
      have Hqn := Lib.hid hqn
      clear hcs hcn hqs hqn hnow
      by_cases hko : k < os.length
      · have hko' : (k : Int) < (os.length : Int) := by omega
        obtain ⟨b2, off2, u, rfl, hb2, hu, hcell⟩ := Hos.out.at_ hko
        obtain ⟨x, hx⟩ : ∃ x, os[k]? = some x := ⟨_, List.getElem?_eq_getElem hko⟩
        obtain rfl : u = bv x := by simp [bvs, hx] at hu; exact hu.symm
        unfold bv at hcell
        have hco : ∀ w', Below w.heap.size w w' → w'.cell? ⟨b2, off2 + k, none⟩ = some (.int .u8 (x.toNat : Int)) := fun w' hC => (hC.cell (p := ⟨b2, off2 + k, none⟩) hb2).trans hcell
        have Hco := Lib.hid hco
        clear hu hx hcell hco
        obtain ⟨y, hy⟩ : ∃ y, x % 32 = y := ⟨_, rfl⟩
        have hy1 : (x.toNat : Int) % 32 = (y.toNat : Int) := by rw [← hy, UInt8.toNat_mod]; rfl
        have hy2 : y.toNat < 32 := by rw [← hy, UInt8.toNat_mod]; exact Nat.mod_lt _ (by decide)
        have Hy2 := Lib.hid hy2
        clear hy hy2
        go_wp2
        refine AnyK.start w (by kernel_rfl) rfl ?_
        have hT1 := hT.out.drew (wr.drawn + 1)
        generalize ({ wr with drawn := wr.drawn + 1 } : World) = wx at *
        have HT1 := Lib.hid hT1
        clear hT1
        apply AnyK.take (i := 0) rfl (by kernel_rfl) rfl
        · intro w' hC K hK
          go_wp2
          exact hK
        · rfl
        apply AnyK.take (i := 1) rfl (by kernel_rfl) rfl
        · intro w' hC K hK
          go_wp2
          exact hK
        · rfl
        apply AnyK.take (i := 2) rfl (by kernel_rfl) rfl
        · intro w' hC K hK
          go_wp2
          exact hK
        · rfl
        apply AnyK.take (i := 3) rfl (by kernel_rfl) rfl
        · intro w' hC K hK
          go_wp2
          exact hK
        · rfl
        apply AnyK.take (i := 4) rfl (by kernel_rfl) rfl
        · intro w' hC K hK
          have h0 := Hco.out w' hC
          go_wp2
          exact hK
        · rfl
        apply AnyK.take (i := 5) rfl (by kernel_rfl) rfl
        · intro w' hC K hK
          go_wp2
          exact hK
        · rfl
        apply AnyK.take (i := 8) rfl (by kernel_rfl) rfl
        · intro w' hC K hK
          go_wp2
          exact hK
        · rfl
        apply AnyK.take (i := 9) rfl (by kernel_rfl) rfl
        · intro w' hC K hK
          go_wp2
          exact hK
        · rfl
        apply AnyK.take (i := 10) rfl (by kernel_rfl) rfl
        · intro w' hC K hK
          go_wp2
          exact hK
        · rfl
        apply AnyK.take (i := 11) rfl (by kernel_rfl) rfl
        · intro w' hC K hK
          go_wp2
          exact hK
        · rfl
        apply AnyK.take (i := 12) rfl (by kernel_rfl) rfl
        · intro w' hC K hK
          have h0 := Hnow.out w' hC
          go_wp2
          exact hK
        · rfl
        apply AnyK.solo (i := 6) rfl (by kernel_rfl) HT1.out.below0
        go_wp2
        refine ⟨rfl, ?_⟩
        have hT2 := HT1.out.grow (w' := wx.alloc (.cells #[.int .u8 111, .int .u8 (y.toNat : Int)] 5 (0, 0))) ((Below.refl _ _).alloc (Nat.le_refl _) _)
        have hr2 : Reads (wx.alloc (.cells #[.int .u8 111, .int .u8 (y.toNat : Int)] 5 (0, 0))) (wx.heap.size + 1) 1 (some ⟨wx.heap.size, 0, none⟩) 2 (bvs (other y)) := by
          refine ⟨by simp [bvs_length, other], fun _ => ⟨_, rfl, Nat.lt_succ_self _, fun j u hu => ?_⟩⟩
          rw [add_none, Nat.zero_add, cell_new]
          simpa [bvs, bv, other] using hu
        have hs2 := run_str8 hr2 2
        have HT2 := Lib.hid hT2
        clear hT2 hr2
        apply AnyK.solo (i := 7) rfl (by kernel_rfl) HT2.out.below0
        go_wp2
        refine ⟨rfl, ?_⟩
        generalize (wx.alloc (.cells #[.int .u8 111, .int .u8 (y.toNat : Int)] 5 (0, 0))) = wy at *
        clear hs2
        apply AnyK.solo (i := 13) rfl (by kernel_rfl) HT2.out.below0
        go_wp2_with (go_at_call 10; go_must (refine (TakeA HT2.out.swap ⟨(other y).toArray⟩ (by simp only [maxLen]; show 2 ≤ _; omega) Hqn.out (fun _ => hI.out.room)).mono ?_; rintro e w5 ⟨rfl, h5⟩))
        refine ⟨rfl, ?_⟩
        refine AnyK.done h5.below0 (by kernel_rfl) ?_
        have HT3 := Lib.hid h5.swap
        have HI3 := Lib.hid (hI.out.others y Hy2.out q.2)
        clear h5
        generalize (tb.take (other y) q.2).2 = tb1 at *
        go_wp2
        refine AnyK.start w (by kernel_rfl) rfl ?_
        have hT6 := HT3.out.drew (w5.drawn + 1)
        generalize ({ w5 with drawn := w5.drawn + 1 } : World) = wz at *
        have HT6 := Lib.hid hT6
        clear hT6
        have hm := HI3.out.mine q.2
        obtain ⟨bA, hbA⟩ : ∃ bA, (ta.take mineL q.2).1 = bA := ⟨_, rfl⟩
        obtain ⟨ta2, hta2⟩ : ∃ t, (ta.take mineL q.2).2 = t := ⟨_, rfl⟩
        obtain ⟨tb2, htb2⟩ : ∃ t, (tb1.take mineL q.2).2 = t := ⟨_, rfl⟩
        have HA : Hid (ta.take mine.data.toList q.2 = (bA, ta2)) := by show ta.take mineL q.2 = _; rw [← hbA, ← hta2]
        have HBt : Hid (tb1.take mine.data.toList q.2 = (bA, tb2)) := by show tb1.take mineL q.2 = _; rw [← hbA, hm.1, ← htb2]
        have hI4 := hm.2
        rw [hta2, htb2] at hI4
        have HI4 := Lib.hid hI4
        clear hm hbA hta2 htb2 hI4
        apply AnyK.take (i := 0) rfl (by kernel_rfl) rfl
        · intro w' hC K hK
          go_wp2
          exact hK
        · rfl
        apply AnyK.take (i := 1) rfl (by kernel_rfl) rfl
        · intro w' hC K hK
          go_wp2
          exact hK
        · rfl
        apply AnyK.take (i := 2) rfl (by kernel_rfl) rfl
        · intro w' hC K hK
          go_wp2
          exact hK
        · rfl
        apply AnyK.take (i := 3) rfl (by kernel_rfl) rfl
        · intro w' hC K hK
          go_wp2
          exact hK
        · rfl
        apply AnyK.take (i := 4) rfl (by kernel_rfl) rfl
        · intro w' hC K hK
          go_wp2
          exact hK
        · rfl
        apply AnyK.take (i := 5) rfl (by kernel_rfl) rfl
        · intro w' hC K hK
          have h0 := Hnow.out w' hC
          go_wp2
          exact hK
        · rfl
        apply AnyK.take (i := 7) rfl (by kernel_rfl) rfl
        · intro w' hC K hK
          go_wp2
          exact hK
        · rfl
        apply AnyK.take (i := 8) rfl (by kernel_rfl) rfl
        · intro w' hC K hK
          go_wp2
          exact hK
        · rfl
        apply AnyK.take (i := 9) rfl (by kernel_rfl) rfl
        · intro w' hC K hK
          go_wp2
          exact hK
        · rfl
        apply AnyK.take (i := 10) rfl (by kernel_rfl) rfl
        · intro w' hC K hK
          go_wp2
          exact hK
        · rfl
        apply AnyK.take (i := 11) rfl (by kernel_rfl) rfl
        · intro w' hC K hK
          go_wp2
          exact hK
        · rfl
        apply AnyK.take (i := 12) rfl (by kernel_rfl) rfl
        · intro w' hC K hK
          have h0 := Hnow.out w' hC
          go_wp2
          exact hK
        · rfl
        apply AnyK.solo (i := 6) rfl (by kernel_rfl) HT6.out.below0
        go_wp2_with (go_at_call 10; go_must (refine (TakeA HT6.out mine (by decide) Hqn.out (fun _ => HI3.out.few)).mono ?_; rintro e w7 ⟨rfl, h7⟩; rw [HA.out] at h7 ⊢; have H7 := Lib.hid h7; clear h7))
        refine ⟨rfl, ?_⟩
        apply AnyK.solo (i := 13) rfl (by kernel_rfl) H7.out.below0
        go_wp2_with (go_at_call 10; go_must (refine (TakeA H7.out.swap mine (by decide) Hqn.out (fun _ => HI3.out.room)).mono ?_; rintro e w8 ⟨rfl, h8⟩; rw [HBt.out] at h8 ⊢; have H8 := Lib.hid h8.swap; clear h8))
        refine ⟨rfl, ?_⟩
        apply AnyK.take (i := 14) rfl (by kernel_rfl) rfl
        · intro w' hC K hK
          go_wp2
          exact hK
        · rfl
        refine AnyK.done H8.out.below0 (by kernel_rfl) ?_
        have hmx := Hmx k hlt
        go_wp2
        go_roundw
        case rel => exact ⟨k + 1, ta2, tb2, hlt, by go_num, HI4, H8⟩
        case measure => simp [intOf]; omega
      · have hko' : ¬ ((k : Int) < (os.length : Int)) := by omega
        go_wp2
        obtain ⟨w5, hw5⟩ : ∃ w5, wr = w5 := ⟨_, rfl⟩
        subst hw5
        have HT3 := hT
        have HI3 := hI
        obtain ⟨tb1, htb1⟩ : ∃ t, tb = t := ⟨_, rfl⟩
        subst htb1
        refine AnyK.start w (by kernel_rfl) rfl ?_
        have hT6 := HT3.out.drew (wr.drawn + 1)
        generalize ({ wr with drawn := wr.drawn + 1 } : World) = wz at *
        have HT6 := Lib.hid hT6
        clear hT6
        have hm := HI3.out.mine q.2
        obtain ⟨bA, hbA⟩ : ∃ bA, (ta.take mineL q.2).1 = bA := ⟨_, rfl⟩
        obtain ⟨ta2, hta2⟩ : ∃ t, (ta.take mineL q.2).2 = t := ⟨_, rfl⟩
        obtain ⟨tb2, htb2⟩ : ∃ t, (tb.take mineL q.2).2 = t := ⟨_, rfl⟩
        have HA : Hid (ta.take mine.data.toList q.2 = (bA, ta2)) := by show ta.take mineL q.2 = _; rw [← hbA, ← hta2]
        have HBt : Hid (tb.take mine.data.toList q.2 = (bA, tb2)) := by show tb.take mineL q.2 = _; rw [← hbA, hm.1, ← htb2]
        have hI4 := hm.2
        rw [hta2, htb2] at hI4
        have HI4 := Lib.hid hI4
        clear hm hbA hta2 htb2 hI4
        apply AnyK.take (i := 0) rfl (by kernel_rfl) rfl
        · intro w' hC K hK
          go_wp2
          exact hK
        · rfl
        apply AnyK.take (i := 1) rfl (by kernel_rfl) rfl
        · intro w' hC K hK
          go_wp2
          exact hK
        · rfl
        apply AnyK.take (i := 2) rfl (by kernel_rfl) rfl
        · intro w' hC K hK
          go_wp2
          exact hK
        · rfl
        apply AnyK.take (i := 3) rfl (by kernel_rfl) rfl
        · intro w' hC K hK
          go_wp2
          exact hK
        · rfl
        apply AnyK.take (i := 4) rfl (by kernel_rfl) rfl
        · intro w' hC K hK
          go_wp2
          exact hK
        · rfl
        apply AnyK.take (i := 5) rfl (by kernel_rfl) rfl
        · intro w' hC K hK
          have h0 := Hnow.out w' hC
          go_wp2
          exact hK
        · rfl
        apply AnyK.take (i := 7) rfl (by kernel_rfl) rfl
        · intro w' hC K hK
          go_wp2
          exact hK
        · rfl
        apply AnyK.take (i := 8) rfl (by kernel_rfl) rfl
        · intro w' hC K hK
          go_wp2
          exact hK
        · rfl
        apply AnyK.take (i := 9) rfl (by kernel_rfl) rfl
        · intro w' hC K hK
          go_wp2
          exact hK
        · rfl
        apply AnyK.take (i := 10) rfl (by kernel_rfl) rfl
        · intro w' hC K hK
          go_wp2
          exact hK
        · rfl
        apply AnyK.take (i := 11) rfl (by kernel_rfl) rfl
        · intro w' hC K hK
          go_wp2
          exact hK
        · rfl
        apply AnyK.take (i := 12) rfl (by kernel_rfl) rfl
        · intro w' hC K hK
          have h0 := Hnow.out w' hC
          go_wp2
          exact hK
        · rfl
        apply AnyK.solo (i := 6) rfl (by kernel_rfl) HT6.out.below0
        go_wp2_with (go_at_call 10; go_must (refine (TakeA HT6.out mine (by decide) Hqn.out (fun _ => HI3.out.few)).mono ?_; rintro e w7 ⟨rfl, h7⟩; rw [HA.out] at h7 ⊢; have H7 := Lib.hid h7; clear h7))
        refine ⟨rfl, ?_⟩
        apply AnyK.solo (i := 13) rfl (by kernel_rfl) H7.out.below0
        go_wp2_with (go_at_call 10; go_must (refine (TakeA H7.out.swap mine (by decide) Hqn.out (fun _ => HI3.out.room)).mono ?_; rintro e w8 ⟨rfl, h8⟩; rw [HBt.out] at h8 ⊢; have H8 := Lib.hid h8.swap; clear h8))
        refine ⟨rfl, ?_⟩
        apply AnyK.take (i := 14) rfl (by kernel_rfl) rfl
        · intro w' hC K hK
          go_wp2
          exact hK
        · rfl
        refine AnyK.done H8.out.below0 (by kernel_rfl) ?_
        have hmx := Hmx k hlt
        go_wp2
        go_roundw
        case rel => exact ⟨k + 1, ta2, tb2, hlt, by go_num, HI4, H8⟩
        case measure => simp [intOf]; omega
    · obtain rfl : k = ak.length := by omega
      obtain ⟨X, hX⟩ : ∃ X, ta.tokens mineL = X := ⟨_, rfl⟩
      have HX : Hid (ta.tokens mine.data.toList = X) := hX
      have HY : Hid (tb.tokens mine.data.toList = X) := hI.out.tokens.symm.trans hX
      clear hX
      go_wp2_with (first
        | (go_at_call 11; (have hx_ := HX; refine (TokensA hT.out mine (by decide)).mono ?_; rintro e w7 ⟨rfl, rfl⟩; rw [HX.out]; clear HX hx_))
        | (go_at_call 11; (refine (TokensA hT.out.swap mine (by decide)).mono ?_; rintro e w7 ⟨rfl, rfl⟩; rw [HY.out])))
      go_ret
      exact ⟨by simp, hT.out.below0⟩
theorem LimitApart_walk (v0 v1 : Value) (ak : List (ByteArray × Int)) (os : List UInt8) (w : World) (a0 : ArgAsks w v0 ak) (a1 : ArgB w v1 os) : Calls Try.prog 3 #[v0, v1] w fun e w' => e = .returned (.bool true) ∧ Below w.heap.size w w' := by
  obtain ⟨A, c, rfl, hm, hq⟩ := a0
  obtain ⟨A', c', rfl, _, hr, _⟩ := a1
  exact LimitApart_any ak os w hm hq hr
end Go.Proofs.Ytkbbelbcjokncaa
