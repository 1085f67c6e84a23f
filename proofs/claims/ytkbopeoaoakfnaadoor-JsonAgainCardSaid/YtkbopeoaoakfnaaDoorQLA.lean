/- The texts LJAgain of this work, merged by wip/merge.py. No conditions. -/
import Derived.Test.YtkbopeoaoakfnaaDoorQRJ
import Derived.Test.YtkbopeoaoakfnaaDoorQWB
import Derived.Test.YtkbopeoaoakfnaaDoorQAS
namespace Go.Proofs.YtkbopeoaoakfnaaDoor
open Go.RowKit
set_option maxRecDepth 100000 in
set_option maxHeartbeats 1000000 in
theorem jsonAgain_walk (v0 : Value) (x0 : ByteArray) (W : World) (a0 : ArgS v0 x0) : Calls Tryd.prog 7 #[v0] W fun e W' => e = .returned (.bool true) ∧ Below W.heap.size W W' := by
  obtain ⟨rfl, hx⟩ := a0
  obtain ⟨s, hs⟩ : ∃ s : List UInt8, x0 = ⟨s.toArray⟩ := ⟨x0.data.toList, by cases x0; simp⟩
  have hsz : x0.size = s.length := by rw [hs]; simp [ByteArray.size]
  have HRP : Hid (∀ w, Calls Tryd.prog 18 #[.string x0] w (RParsePost w s)) := by
    intro w
    rw [hs]
    exact rparse_any w s
  have HPP : Hid (∀ w, Calls Tryd.prog 16 #[.string x0] w (ParsePost w s)) := by
    intro w
    rw [hs]
    exact parse_any w s
  clear hs hx
  obtain ⟨R, hR⟩ : ∃ R, R = parseP s := ⟨_, rfl⟩
  have HR := Lib.hid hR
  rcases parseP_cases s with ⟨h0, hok, hp, hbf, hsl⟩ | ⟨he, hnil, ha0, ha1⟩
  · have hk : (parseP s).2.1 = 0 := by rw [hp]
    have hj : (parseP s).1 = (bodyP s).1 := by rw [hp]
    obtain ⟨J, hJ⟩ : ∃ J, J = R.1 := ⟨_, rfl⟩
    have hgood : goodJ J 16 := by rw [hJ, hR, hj]; exact parseP_goodJ hbf
    have hbnd : (prt J).length ≤ 24 * s.length := by rw [hJ, hR, hj]; exact parse_bound hbf
    rw [← hR] at h0 hok hk
    rw [← hJ] at hok
    have HOK := Lib.hid hok
    have H0 := Lib.hid (And.intro h0 hk)
    have HJ := Lib.hid hJ
    have HG := Lib.hid hgood
    have HLN : Hid ((prt J).length ≤ 140737488000000) := by show _ ≤ _; omega
    obtain ⟨t, ht⟩ : ∃ t : ByteArray, t = ⟨(prt J).toArray⟩ := ⟨_, rfl⟩
    have htz : t.size = (prt J).length := by rw [ht]; simp [ByteArray.size]
    have HPT : Hid (∀ w, Calls Tryd.prog 16 #[.string t] w (ParsePost w (prt J))) := by
      intro w
      rw [ht]
      exact parse_any w (prt J)
    have HT := Lib.hid ht
    clear hR h0 hok hp hk hj hJ hgood hbnd hbf hsl hsz ht
    by_cases hbig : 8192 < (prt J).length
    · have hPB : parseP (prt J) = (.nil, 0, 6) := by unfold parseP; rw [if_pos hbig]
      have HPB := Lib.hid hPB
      have hb : (8192 : Int) < (t.size : Int) := by omega
      clear hPB hbig htz
      go_enter Tryd.func7, Tryd.ntmps7
      go_wp2_with (first
        | (go_at_call 10; go_must (refine (awake_any W).mono ?_; rintro e w1 ⟨rfl, hb1⟩; have B1 := Lib.hid hb1; clear hb1))
        | (go_at_call 16; have hx_ := B4; go_must (refine (HPT.out _).mono ?_; rintro e w5 ⟨v5, rfl, hb5, hV5⟩; rw [HPB.out] at hV5; cases hV5; rw [HPB.out]; have B5 := Lib.hid hb5; clear hb5))
        | (go_at_call 16; go_must (refine (HPP.out w1).mono ?_; rintro e w3 ⟨v, rfl, hb3, hV3⟩; rw [← HR.out, ← HJ.out] at hV3; rw [← HR.out, H0.out.1, H0.out.2]; have B3 := Lib.hid hb3; have HV3 := Lib.hid hV3; have hv1 := hV3.one; clear hb3 hV3))
        | (go_at_call 12; go_must (refine (print_any HV3.out (fun q hq => hq.2) HLN.out).mono ?_; rw [← HT.out]; rintro e w4 ⟨rfl, hb4⟩; have B4 := Lib.hid hb4; clear hb4)))
      go_ret
      refine ⟨by simp, ?_⟩
      have s1 := B1.out.size
      have s3 := B3.out.size
      have s4 := B4.out.size
      exact B1.out.trans ((B3.out.mono (by omega)).trans ((B4.out.mono (by omega)).trans (B5.out.mono (by omega))))
    · have hPB : parseP (prt J) = (J, 0, 0) := parse_print HG.out (by omega)
      have HPB := Lib.hid hPB
      have hb : ¬ (8192 : Int) < (t.size : Int) := by omega
      clear hPB hbig htz
      go_enter Tryd.func7, Tryd.ntmps7
      go_upto_region 10 with (first
        | (go_at_call 10; go_must (refine (awake_any W).mono ?_; rintro e w1 ⟨rfl, hb1⟩; have B1 := Lib.hid hb1; clear hb1))
        | (go_at_call 16; have hx_ := B4; go_must (refine (HPT.out _).mono ?_; rintro e w5 ⟨v5, rfl, hb5, hV5⟩; rw [HPB.out] at hV5; rw [HPB.out]; have B5 := Lib.hid hb5; have HV5 := Lib.hid hV5; have hv5 := hV5.one; clear hb5 hV5))
        | (go_at_call 16; go_must (refine (HPP.out w1).mono ?_; rintro e w3 ⟨v, rfl, hb3, hV3⟩; rw [← HR.out, ← HJ.out] at hV3; rw [← HR.out, H0.out.1, H0.out.2]; have B3 := Lib.hid hb3; have HV3 := Lib.hid hV3; have hv1 := hV3.one; clear hb3 hV3))
        | (go_at_call 12; go_must (refine (print_any HV3.out (fun q hq => hq.2) HLN.out).mono ?_; rw [← HT.out]; rintro e w4 ⟨rfl, hb4⟩; have B4 := Lib.hid hb4; clear hb4)))
      go_upto_region 11 with (go_at_call 18; go_must (refine (HRP.out _).mono ?_; rintro e w6 ⟨us, tt, rfl, hb6, hT6, ht6⟩; rw [← HR.out, ← HJ.out] at ht6; rw [← HR.out, H0.out.1, H0.out.2]; obtain rfl := ht6 H0.out.1; obtain ⟨kx, bx, sx, Ax, nx, cx, Ay, ny, cy, rfl⟩ := hT6.form; have B6 := Lib.hid hb6; have HT6 := Lib.hid hT6; clear hb6 hT6 ht6))
      obtain ⟨w7, hw7⟩ : ∃ w7, w7 = w6.alloc (.cells #[.int .i64 kx, .bool bx, .string ⟨sx.toArray⟩, .slice Ax nx cx, .slice Ay ny cy] 35) := ⟨_, rfl⟩
      have hb7 : Below w6.heap.size w6 w7 := by rw [hw7]; exact (Below.refl _ _).alloc (Nat.le_refl _) _
      have hx7 : w7.heap[w6.heap.size]? = some (.cells #[.int .i64 kx, .bool bx, .string ⟨sx.toArray⟩, .slice Ax nx cx, .slice Ay ny cy] 35 (0, 0)) := by rw [hw7]; exact heap_alloc_new _ _
      rw [← hw7]
      have B7 := Lib.hid hb7
      have HV7 := Lib.hid (HV5.out.keep (fun q hq => (hb7.block q (Nat.lt_of_lt_of_le hq.2 B6.out.size)).trans (B6.out.block q hq.2)) (fun q hq => (show q < w7.heap.size from Nat.lt_of_lt_of_le (Nat.lt_of_lt_of_le hq.2 B6.out.size) hb7.size)))
      have HT7 := Lib.hid (HT6.out.keep (fun q hq => hb7.block q hq.2) (fun q hq => (show q < w7.heap.size from Nat.lt_of_lt_of_le hq.2 hb7.size)))
      obtain ⟨z0, z1, z2, z3, z4, zf⟩ := row5 hx7
      clear hw7 hb7 hx7
      have HIS := Lib.hid (is_any HV7.out HT7.out (jt_MJ _ HOK.out) (fun q hq => hq) (fun q hq => hq) HOK.out)
      go_wp2_with (first
        | (go_at_call 19; go_must (refine HIS.out.mono ?_; rintro e w8 ⟨rfl, hb8⟩; have B8 := Lib.hid hb8; have HV8 := Lib.hid (HV7.out.keep (fun q hq => hb8.block q hq) (fun q hq => (show q < w8.heap.size from Nat.lt_of_lt_of_le hq hb8.size))); clear hb8))
        | (go_at_call 12; go_must (refine (print_any HV8.out (fun q hq => hq) HLN.out).mono ?_; rw [← HT.out]; rintro e w9 ⟨rfl, hb9⟩; have B9 := Lib.hid hb9; clear hb9)))
      go_ret
      refine ⟨by simp, ?_⟩
      have s1 := B1.out.size
      have s3 := B3.out.size
      have s4 := B4.out.size
      have s5 := B5.out.size
      have s6 := B6.out.size
      have s7 := B7.out.size
      have s8 := B8.out.size
      exact B1.out.trans ((B3.out.mono (by omega)).trans ((B4.out.mono (by omega)).trans ((B5.out.mono (by omega)).trans ((B6.out.mono (by omega)).trans ((B7.out.mono (by omega)).trans ((B8.out.mono (by omega)).trans (B9.out.mono (by omega))))))))
  · rw [← hR] at he hnil ha0 ha1
    have HNIL := Lib.hid hnil
    obtain ⟨K, hK⟩ : ∃ K : Int, K = R.2.1 := ⟨_, rfl⟩
    rw [← hK] at ha0 ha1
    have HK := Lib.hid hK
    have hK1 : K ≤ (x0.size : Int) := by rw [hsz]; exact ha1
    have HE := Lib.hid he
    clear hR hnil ha1 hK hsz he
    rcases HE.out with h2 | h6
    · have H2 := Lib.hid h2
      clear h2
      go_enter Tryd.func7, Tryd.ntmps7
      go_wp2_with (first
        | (go_at_call 10; go_must (refine (awake_any W).mono ?_; rintro e w1 ⟨rfl, hb1⟩; have B1 := Lib.hid hb1; clear hb1))
        | (go_at_call 16; go_must (refine (HPP.out w1).mono ?_; rintro e w3 ⟨v, rfl, hb3, hV3⟩; rw [← HR.out, HNIL.out] at hV3; cases hV3; rw [← HR.out, H2.out, ← HK.out]; have B3 := Lib.hid hb3; clear hb3)))
      go_ret
      exact ⟨by simp, B1.out.trans (B3.out.mono B1.out.size)⟩
    · have H6 := Lib.hid h6
      clear h6
      go_enter Tryd.func7, Tryd.ntmps7
      go_wp2_with (first
        | (go_at_call 10; go_must (refine (awake_any W).mono ?_; rintro e w1 ⟨rfl, hb1⟩; have B1 := Lib.hid hb1; clear hb1))
        | (go_at_call 16; go_must (refine (HPP.out w1).mono ?_; rintro e w3 ⟨v, rfl, hb3, hV3⟩; rw [← HR.out, HNIL.out] at hV3; cases hV3; rw [← HR.out, H6.out, ← HK.out]; have B3 := Lib.hid hb3; clear hb3)))
      go_ret
      exact ⟨by simp, B1.out.trans (B3.out.mono B1.out.size)⟩
end Go.Proofs.YtkbopeoaoakfnaaDoor
