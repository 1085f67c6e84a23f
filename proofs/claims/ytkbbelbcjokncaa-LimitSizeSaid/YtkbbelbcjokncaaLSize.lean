/- The law LimitSize. No conditions. -/
import Derived.Test.YtkbbelbcjokncaaLSize0
import Derived.Test.YtkbbelbcjokncaaStr8
import Derived.Test.YtkbbelbcjokncaaReg4
import Derived.Test.YtkbbelbcjokncaaArgU8
import Derived.Test.YtkbbelbcjokncaaArgU16s
namespace Go.Proofs.Ytkbbelbcjokncaa
open Go.RowKit
theorem TK.grow {w w' w0 : World} {g m : Nat} {t : LT} (h : TK w0 w g m t) (hw : Below w.heap.size w w') : TK w0 w' g m t := by
  obtain ⟨h1, o, D, hA, hb⟩ := h
  exact ⟨h1, o, D, hA.below hw, hb.trans (hw.mono hb.size)⟩
set_option maxRecDepth 100000 in
set_option maxHeartbeats 1000000 in
theorem LimitSize_any (ks : List Int) (st : UInt8) (w : World) {A : Option Addr} {c : Nat} (hks : Reads w w.heap.size 1 A ks.length (ks.map (Value.int .u16))) (hx16 : ∀ x ∈ ks, 0 ≤ x ∧ x < 65536) (hlen : ks.length ≤ 140737488351232) :
    Calls Try.prog 6 #[.slice A ks.length c, .int .u8 (st.toNat : Int)] w fun e w' => e = .returned (.bool true) ∧ Below w.heap.size w w' := by
  have hst : (st.toNat : Int) < 256 := by have := st.toNat_lt; omega
  have hst0 : (0 : Int) ≤ (st.toNat : Int) := by omega
  have Hks := Lib.hid hks
  have Hx16 := Lib.hid hx16
  have Hlen := Lib.hid hlen
  clear hks hx16 hlen
  go_enter Try.func6, Try.ntmps6
  go_wp2_with (first
    | (go_at_call 8; go_must (refine (awake_any _).mono ?_; rintro e w0 ⟨rfl, hbw⟩))
    | (go_at_call 9; go_must (refine (New_tk (w0 := w) 3 0 (by omega) (by omega) (by omega) (by omega) hbw).mono ?_; rintro e w1 ⟨g, mm, rfl, h1⟩; have H1 := Lib.hid h1; clear h1 hbw)))
  go_loopw [19] (fun i wr => ∃ (k : Nat) (t : LT), k ≤ ks.length ∧ i = .int .i64 k ∧ Hid (Siz t) ∧ Hid (TK w wr g mm t)) (fun i _ => ks.length - (intOf i).toNat)
  case atStart => exact ⟨0, _, Nat.zero_le _, rfl, Siz.start, H1.out⟩
  case round =>
    obtain ⟨k, t, hk, rfl, hI, hT⟩ := hrel
    clear H1
    by_cases hlt : k < ks.length
    · have hlt' : (k : Int) < (ks.length : Int) := by omega
      have hk0 : (0 : Int) ≤ (k : Int) := by omega
      obtain ⟨b, off, u, rfl, hb, hu, hcell⟩ := Hks.out.at_ hlt
      obtain ⟨x, hx⟩ : ∃ x, ks[k]? = some x := ⟨_, List.getElem?_eq_getElem hlt⟩
      obtain rfl : u = .int .u16 x := by simp [hx] at hu; exact hu.symm
      have hxb := Hx16.out x (List.mem_of_getElem? hx)
      have hco : ∀ w', Below w.heap.size w w' → w'.cell? ⟨b, off + k, none⟩ = some (.int .u16 x) := fun w' hC => (hC.cell (p := ⟨b, off + k, none⟩) hb).trans hcell
      have Hcell := Lib.hid hco
      clear hu hx hcell hco
      go_wp2
      refine AnyK.start w (by kernel_rfl) rfl ?_
      have hT1 := hT.out.grow (w' := { wr with drawn := wr.drawn + 1 }) ⟨rfl, rfl, rfl, Nat.le_refl _, fun _ _ => rfl⟩
      generalize ({ wr with drawn := wr.drawn + 1 } : World) = wx at *
      have HT1 := Lib.hid hT1
      clear hT1
      apply AnyK.take (i := 0) rfl (by kernel_rfl) rfl
      · intro w' hC K hK
        go_wp2
        exact hK
      · rfl
      apply AnyK.take (i := 1) rfl (by kernel_rfl) rfl
      · intro w' hC K hK
        go_wp2
        exact hK
      · rfl
      apply AnyK.take (i := 2) rfl (by kernel_rfl) rfl
      · intro w' hC K hK
        go_wp2
        exact hK
      · rfl
      apply AnyK.take (i := 3) rfl (by kernel_rfl) rfl
      · intro w' hC K hK
        have h0 := Hcell.out w' hC
        go_wp2
        exact hK
      · rfl
      apply AnyK.take (i := 4) rfl (by kernel_rfl) rfl
      · intro w' hC K hK
        go_wp2
        exact hK
      · rfl
      apply AnyK.take (i := 5) rfl (by kernel_rfl) rfl
      · intro w' hC K hK
        go_wp2
        exact hK
      · rfl
      apply AnyK.take (i := 6) rfl (by kernel_rfl) rfl
      · intro w' hC K hK
        go_wp2
        exact hK
      · rfl
      apply AnyK.take (i := 7) rfl (by kernel_rfl) rfl
      · intro w' hC K hK
        go_wp2
        exact hK
      · rfl
      apply AnyK.take (i := 8) rfl (by kernel_rfl) rfl
      · intro w' hC K hK
        have h0 := Hcell.out w' hC
        go_wp2
        exact hK
      · rfl
      apply AnyK.take (i := 9) rfl (by kernel_rfl) rfl
      · intro w' hC K hK
        go_wp2
        exact hK
      · rfl
      apply AnyK.take (i := 10) rfl (by kernel_rfl) rfl
      · intro w' hC K hK
        go_wp2
        exact hK
      · rfl
      obtain ⟨y1, hy1⟩ : ∃ y1 : UInt8, x % 256 = (y1.toNat : Int) := ⟨UInt8.ofNat (x % 256).toNat, by rw [UInt8.toNat_ofNat']; omega⟩
      obtain ⟨y2, hy2⟩ : ∃ y2 : UInt8, x / 256 = (y2.toNat : Int) := ⟨UInt8.ofNat (x / 256).toNat, by rw [UInt8.toNat_ofNat']; omega⟩
      rw [hy1, hy2]
      clear hxb hy1 hy2
      apply AnyK.solo (i := 11) rfl (by kernel_rfl) HT1.out.below0
      go_wp2
      refine ⟨rfl, ?_⟩
      have hT2 := HT1.out.grow (w' := wx.alloc (.cells #[.int .u8 (y1.toNat : Int), .int .u8 (y2.toNat : Int)] 5 (0, 0))) ((Below.refl _ _).alloc (Nat.le_refl _) _)
      have hr2 : Reads (wx.alloc (.cells #[.int .u8 (y1.toNat : Int), .int .u8 (y2.toNat : Int)] 5 (0, 0))) (wx.heap.size + 1) 1 (some ⟨wx.heap.size, 0, none⟩) 2 (bvs [y1, y2]) := by
        refine ⟨by simp [bvs_length], fun _ => ⟨_, rfl, Nat.lt_succ_self _, fun j u hu => ?_⟩⟩
        rw [add_none, Nat.zero_add, cell_new]
        simpa [bvs, bv] using hu
      have hs2 := run_str8 hr2 2
      have HT2 := Lib.hid hT2
      clear hT2 hr2
      apply AnyK.solo (i := 12) rfl (by kernel_rfl) HT2.out.below0
      go_wp2
      refine ⟨rfl, ?_⟩
      generalize (wx.alloc (.cells #[.int .u8 (y1.toNat : Int), .int .u8 (y2.toNat : Int)] 5 (0, 0))) = wy at *
      clear hs2
      apply AnyK.take (i := 13) rfl (by kernel_rfl) rfl
      · intro w' hC K hK
        go_wp2
        exact hK
      · rfl
      refine AnyK.done HT2.out.below0 (by kernel_rfl) ?_
      obtain ⟨N, hN⟩ : ∃ N, (k : Int) * (st.toNat : Int) = N := ⟨_, rfl⟩
      have hkl : (k : Int) ≤ 140737488351232 := by have := Hlen.out; omega
      have hN0 : 0 ≤ N := by rw [← hN]; exact Int.mul_nonneg hk0 hst0
      have hN1 : N ≤ 140737488351232 * 256 := by rw [← hN]; exact Int.mul_le_mul hkl (by omega) hst0 (by omega)
      have hNn : Unit → (-9223372036854775808 ≤ N ∧ N ≤ 9223372036854775807) := fun _ => by omega
      have hNw : wrap64 N = N := by unfold wrap64; omega
      clear hN0 hN1
      go_wp2_with (first
        | (go_at_call 10; go_must (refine (TakeAny HT2.out hI.out ⟨([y1, y2] : List UInt8).toArray⟩ (by simp only [maxLen]; show 2 ≤ _; omega) (hNn ())).mono ?_; rintro e w5 ⟨bt, t', rfl, h5, h6, h7, h8⟩; have H5 := Lib.hid h5; have H6 := Lib.hid h6; have d1 : decide ((64 : Int) < (t'.n : Int)) = false := (decide_eq_false (by have := h6.n; omega)); have d2 : decide ((t'.n : Int) < 1) = false := (decide_eq_false (by omega)); obtain ⟨tok, htok⟩ : ∃ tok, t'.tokens (ByteArray.mk ([y1, y2] : List UInt8).toArray).data.toList = tok := ⟨_, rfl⟩; rw [htok] at h8; have Htok := Lib.hid htok; have d3 : decide (2 < tok) = false := (decide_eq_false (by omega)); clear h5 h6 h7 h8 htok))
        | (go_at_call 11; go_must (refine (Tokens_tk H5.out ⟨([y1, y2] : List UInt8).toArray⟩ (by simp only [maxLen]; show 2 ≤ _; omega)).mono ?_; rintro e w3 ⟨rfl, rfl⟩; rw [Htok.out]))
        | (go_at_call 14; go_must (refine (Size_tk H5.out).mono ?_; rintro e w3 ⟨rfl, rfl⟩)))
      go_roundw
      case rel => exact ⟨k + 1, t', hlt, by go_num, H6, H5⟩
      case measure => simp [intOf]; omega
    · obtain rfl : k = ks.length := by omega
      go_wp2
      go_ret
      exact ⟨rfl, hT.out.below0⟩
theorem LimitSize_walk (v0 v1 : Value) (ks : List Int) (st : UInt8) (w : World) (a0 : ArgU16s w v0 ks) (a1 : ArgU8 v1 st) : Calls Try.prog 6 #[v0, v1] w fun e w' => e = .returned (.bool true) ∧ Below w.heap.size w w' := by
  obtain ⟨A, c, rfl, hr, hx, hl⟩ := a0
  rw [a1]
  exact LimitSize_any ks st w hr hx hl
end Go.Proofs.Ytkbbelbcjokncaa
