/- The law LimitBounds. No conditions. -/
import Derived.Test.YtkbbelbcjokncaaLBounds0
import Derived.Test.YtkbbelbcjokncaaArgU8
import Derived.Test.YtkbbelbcjokncaaArgBytes
import Derived.Test.YtkbbelbcjokncaaArgI64
namespace Go.Proofs.Ytkbbelbcjokncaa
open Go.RowKit
set_option maxRecDepth 100000 in
set_option maxHeartbeats 1000000 in
theorem LimitBounds_any (cm ce : UInt8) (gs : List UInt8) (st : Int) (w : World) {A : Option Addr} {c : Nat} (hgs : Reads w w.heap.size 1 A gs.length (bvs gs)) (hlen : gs.length ≤ 140737488351232) (_hst : -9223372036854775808 ≤ st ∧ st ≤ 9223372036854775807) :
    Calls Try.prog 5 #[.int .u8 (cm.toNat : Int), .int .u8 (ce.toNat : Int), .slice A gs.length c, .int .i64 st] w fun e w' => e = .returned (.bool true) ∧ Below w.heap.size w w' := by
  have hcm : (cm.toNat : Int) < 256 := by have := cm.toNat_lt; omega
  have hce : (ce.toNat : Int) < 256 := by have := ce.toNat_lt; omega
  obtain ⟨b0, hb0⟩ : ∃ b0, st.tmod 1099511627776 = b0 := ⟨_, rfl⟩
  have hbb : -1099511627776 ≤ b0 ∧ b0 ≤ 1099511627776 := by
    have h1 := Int.tmod_lt_of_pos st (b := 1099511627776) (by omega)
    have h2 := Int.lt_tmod_of_pos st (b := 1099511627776) (by omega)
    omega
  have Hgs := Lib.hid hgs
  have Hlen := Lib.hid hlen
  have Hbb := Lib.hid hbb
  clear hgs hlen hbb _hst
  go_enter Try.func5, Try.ntmps5
  go_wp2_with (first
    | (go_at_call 8; go_must (refine (awake_any _).mono ?_; rintro e w0 ⟨rfl, hbw⟩))
    | (go_at_call 9; go_must (refine (New_tk (w0 := w) _ _ (by omega) (by omega) (by omega) (by omega) hbw).mono ?_; rintro e w1 ⟨g, mm, rfl, h1⟩; have H1 := Lib.hid h1; clear h1 hbw)))
  go_loopw [13, 15, 37] (fun v13 v15 i wr => ∃ (k : Nat) (t : LT) (T S nn : Int), k ≤ gs.length ∧ i = .int .i64 k ∧ v13 = .int .i64 nn ∧ v15 = .int .i64 T ∧ Hid (nn = b0 + S) ∧ Hid (Bnd (1 + (cm.toNat : Int)) (ce.toNat : Int) b0 k t T S) ∧ Hid (TK w wr g mm t)) (fun _ _ i _ => gs.length - (intOf i).toNat)
  case atStart => exact ⟨0, _, 0, 0, b0, Nat.zero_le _, rfl, rfl, rfl, (Int.add_zero b0).symm, Bnd.start (by omega) (by omega) (by omega) (by omega), H1.out⟩
  case round =>
    obtain ⟨k, t, T, S, nn, hk, rfl, rfl, rfl, hnn, hB, hT⟩ := hrel
    clear H1
    by_cases hlt : k < gs.length
    · have hlt' : (k : Int) < (gs.length : Int) := by omega
      have hk0 : (0 : Int) ≤ (k : Int) := by omega
      have hkm : (k : Int) ≤ 140737488351232 := by have := Hlen.out; omega
      obtain ⟨b, off, u, rfl, hb, hu, hcell⟩ := (Hgs.out.below hT.out.below0).at_ hlt
      obtain ⟨x, hx⟩ : ∃ x, gs[k]? = some x := ⟨_, List.getElem?_eq_getElem hlt⟩
      obtain rfl : u = bv x := by simp [bvs, hx] at hu; exact hu.symm
      unfold bv at hcell
      obtain ⟨d, hd⟩ : ∃ d : Int, (x.toNat : Int) % 3 = d := ⟨_, rfl⟩
      have hd2 : 0 ≤ d ∧ d ≤ 2 := by omega
      obtain ⟨bt, t', tok, htk, hB', htok, htok0, htokm, hn1, hle⟩ := hB.out.step hd2 Hbb.out (by omega)
      have hS0 := hB.out.S0
      have hS2 := hB.out.S2
      have hT0 := hB.out.T0
      have hTk := hB.out.Tk
      have hce0 : (0 : Int) ≤ (ce.toNat : Int) := by omega
      obtain ⟨Q, hQ⟩ : ∃ Q, (ce.toNat : Int) * (S + d) = Q := ⟨_, rfl⟩
      have hQ0 : 0 ≤ Q := by rw [← hQ]; exact Int.mul_nonneg hce0 (by omega)
      have hQ1 : Q ≤ 255 * 281474976710656 := by rw [← hQ]; exact Int.mul_le_mul (by omega) (by omega) (by omega) (by omega)
      rw [hQ] at hle
      have hn' : nn + d = b0 + (S + d) := by rw [hnn.out]; omega
      rw [← hn'] at htk
      have hsub : nn + d - b0 = S + d := by omega
      have hnb : -9223372036854775808 ≤ nn + d ∧ nn + d ≤ 9223372036854775807 := by have := Hbb.out; rw [hn']; omega
      have hTq : T + 1 ≤ 9223372036854775807 := by omega
      have hcm0 : (0 : Int) ≤ (cm.toNat : Int) := by omega
      have Htk := Lib.hid htk
      have HB := Lib.hid hB'
      have Htok := Lib.hid htok
      have Hn1 := Lib.hid hn1
      have Hn' := Lib.hid hn'
      have Hroom := Lib.hid (fun e => hB.out.room e)
      have Hnb : Unit → (-9223372036854775808 ≤ nn + d ∧ nn + d ≤ 9223372036854775807) := fun _ => hnb
      have hw1 : wrap64 (nn + d) = nn + d := by unfold wrap64; omega
      have hw2 : wrap64 (nn + d - b0) = S + d := by rw [hsub]; unfold wrap64; omega
      have hw3 : wrap64 ((ce.toNat : Int) * (S + d)) = Q := by rw [hQ]; unfold wrap64; omega
      have hw4 : wrap64 (1 + (cm.toNat : Int) + Q) = 1 + (cm.toNat : Int) + Q := by unfold wrap64; omega
      have d1 : decide (tok < 0) = false := decide_eq_false (by omega)
      have d2 : decide (1 + (cm.toNat : Int) < tok) = false := decide_eq_false (by omega)
      have hw5 : wrap64 (T + 1) = T + 1 := by unfold wrap64; omega
      cases bt with
      | true =>
        simp only [if_true] at hle HB
        have d3 : decide (1 + (cm.toNat : Int) + Q < T + 1) = false := decide_eq_false (by omega)
        clear hu hx htk hB' htok hn1 hn' hnb htok0 htokm hle hsub hQ hQ0 hQ1 hS0 hS2 hT0
        go_wp2_with (first
          | (go_at_call 10; go_must (refine (Take_tk hT.out strK (by decide) (now := nn + d) (Hnb ()) Hroom.out).mono ?_; rintro e w2 ⟨rfl, h2⟩; rw [Htk.out] at h2 ⊢; have H2 := Lib.hid h2; clear h2))
          | (go_at_call 11; go_must (refine (Tokens_tk H2.out strK (by decide)).mono ?_; rintro e w3 ⟨rfl, rfl⟩; rw [Htok.out]))
          | (go_at_call 14; go_must (refine (Size_tk H2.out).mono ?_; rintro e w3 ⟨rfl, rfl⟩; rw [Hn1.out])))
        go_roundw
        case rel => exact ⟨k + 1, t', T + 1, S + d, nn + d, hlt, by go_num, rfl, by first | rfl | (rw [hw5]), Hn', HB, H2⟩
        case measure => simp [intOf]; omega
      | false =>
        simp only [Bool.false_eq_true, if_false] at hle HB
        have d3 : decide (1 + (cm.toNat : Int) + Q < T) = false := decide_eq_false (by omega)
        clear hu hx htk hB' htok hn1 hn' hnb htok0 htokm hle hsub hQ hQ0 hQ1 hS0 hS2 hT0
        go_wp2_with (first
          | (go_at_call 10; go_must (refine (Take_tk hT.out strK (by decide) (now := nn + d) (Hnb ()) Hroom.out).mono ?_; rintro e w2 ⟨rfl, h2⟩; rw [Htk.out] at h2 ⊢; have H2 := Lib.hid h2; clear h2))
          | (go_at_call 11; go_must (refine (Tokens_tk H2.out strK (by decide)).mono ?_; rintro e w3 ⟨rfl, rfl⟩; rw [Htok.out]))
          | (go_at_call 14; go_must (refine (Size_tk H2.out).mono ?_; rintro e w3 ⟨rfl, rfl⟩; rw [Hn1.out])))
        go_roundw
        case rel => exact ⟨k + 1, t', T, S + d, nn + d, hlt, by go_num, rfl, rfl, Hn', HB, H2⟩
        case measure => simp [intOf]; omega
    · obtain rfl : k = gs.length := by omega
      go_wp2
      go_ret
      exact ⟨rfl, hT.out.below0⟩
theorem LimitBounds_walk (v0 v1 v2 v3 : Value) (cm ce : UInt8) (gs : List UInt8) (st : Int) (w : World) (a0 : ArgU8 v0 cm) (a1 : ArgU8 v1 ce) (a2 : ArgB w v2 gs) (a3 : ArgI64 v3 st) : Calls Try.prog 5 #[v0, v1, v2, v3] w fun e w' => e = .returned (.bool true) ∧ Below w.heap.size w w' := by
  obtain ⟨A, c, rfl, _, hr, hl⟩ := a2
  rw [a0, a1, a3.1]
  rw [reach_eq] at hl
  exact LimitBounds_any cm ce gs st w hr hl a3.2
end Go.Proofs.Ytkbbelbcjokncaa
