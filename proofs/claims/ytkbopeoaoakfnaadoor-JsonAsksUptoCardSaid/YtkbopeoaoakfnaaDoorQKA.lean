/- The texts JK2 JK3 of this work, merged by wip/merge.py. No conditions. -/
import Derived.Test.YtkbopeoaoakfnaaDoorQP
import Derived.Test.YtkbopeoaoakfnaaDoorQJC
import Derived.Test.YtkbopeoaoakfnaaDoorQG
namespace Go.Proofs.YtkbopeoaoakfnaaDoor
open Go.RowKit
theorem and31 : ∀ c : Nat, c < 256 → bits .and .u8 (c : Int) 31 = ((c % 32 : Nat) : Int) := by decide +kernel
theorem and15u : ∀ c : Nat, c < 256 → bits .and .u8 (c : Int) 15 = ((c % 16 : Nat) : Int) := by decide +kernel
theorem and7u : ∀ c : Nat, c < 256 → bits .and .u8 (c : Int) 7 = ((c % 8 : Nat) : Int) := by decide +kernel
theorem and63u : ∀ c : Nat, c < 256 → bits .and .u8 (c : Int) 63 = ((c % 64 : Nat) : Int) := by decide +kernel
theorem or64i (a d : Nat) (ha : a < 1073741824) (hd : d < 64) : bits .or .i64 ((a : Int) * 64) (d : Int) = ((a * 64 + d : Nat) : Int) := by
  have h3 := Nat.two_pow_add_eq_or_of_lt (i := 6) (b := d) (by omega) a
  rw [show (a : Int) * 64 = ((a * 64 : Nat) : Int) by omega, i64_or_nat _ _ (by omega) (by omega), show a * 64 = 2 ^ 6 * a by omega, ← h3]
/-- What the walk asks of the string. -/
structure StrAt (sb : ByteArray) (k : Nat) (l : List UInt8) : Prop where
  len : l.length = sb.size - k
  lt : k < sb.size
  get : ∀ (i : Nat), k + i < sb.size → ∀ h0 : k + i < sb.size, sb[k + i]'h0 = l.getD i 0
theorem strAt (s : List UInt8) (k : Nat) (hk : k < s.length) : StrAt ⟨s.toArray⟩ k (s.drop k) := by
  refine ⟨by simp [ByteArray.size], by simpa [ByteArray.size] using hk, ?_⟩
  intro i _ h0
  have hi : k + i < s.length := by simpa [ByteArray.size] using h0
  simp [List.getD, List.getElem?_eq_getElem hi]
  rfl
set_option maxRecDepth 100000 in
set_option maxHeartbeats 800000 in
theorem rune2_any {sb : ByteArray} {k : Nat} {l : List UInt8} (h : StrAt sb k l) (hlen : sb.size ≤ 140737488355328) (hc : (l.getD 0 0).toNat / 32 = 6) (w : World) : Calls Tryd.prog 54 #[.string sb, .int .i64 (k : Int)] w fun e w' => e = .returned (.int .i64 (runeW l : Int)) ∧ w' = w := by
  obtain ⟨hll, hk, hby⟩ := h
  obtain ⟨c, hcd⟩ : ∃ c : UInt8, c = l.getD 0 0 := ⟨_, rfl⟩
  have hg := hby 0 hk
  rw [Nat.add_zero] at hg
  rw [← hcd] at hc hg
  have hkI : (0 : Int) ≤ (k : Int) := by omega
  have hkl : (k : Int) < (sb.size : Int) := by omega
  have hsl : (sb.size : Int) ≤ 140737488355328 := by omega
  have hc1 : (192 : Int) ≤ (c.toNat : Int) := by omega
  have hc2 : (c.toNat : Int) < 224 := by omega
  have hand := and31 c.toNat c.toNat_lt
  have hlaw := rune_law (l := l) (n := 2) (least := 128) (v0 := c.toNat % 32) (by intro e; rw [e] at hll; simp at hll; omega) (by rw [← hcd]; exact .inl ⟨rfl, rfl, rfl, hc⟩)
  obtain ⟨v0, hv0⟩ : ∃ v0, v0 = c.toNat % 32 := ⟨_, rfl⟩
  rw [← hv0] at hlaw hand
  have hv32 : v0 < 32 := by omega
  have d32 : ((c.toNat : Int) / 32 == 6) = true := by simp; omega
  clear hcd hv0
  by_cases hshort : l.length < 2
  · have hlt : (sb.size : Int) < (k : Int) + 2 := by omega
    have HR := Lib.hid (hlaw.2 (.inl hshort))
    clear hlaw hby hc hshort hll
    go_enter Tryd.func54, Tryd.ntmps54
    go_wp2
    go_ret
    exact ⟨by rw [HR.out]; rfl, rfl⟩
  have hnl : (k : Int) + 2 ≤ (sb.size : Int) := by omega
  have HL := Lib.hid hlaw
  have HLL := Lib.hid (show 2 ≤ l.length by omega)
  have HV := Lib.hid hv32
  have HB := Lib.hid hby
  clear hlaw hby hc hshort hll
  go_enter Tryd.func54, Tryd.ntmps54
  go_wp2
  go_loop [8, 9] (fun v i => ∃ j : Nat, 1 ≤ j ∧ j ≤ 2 ∧ i = .int .i64 (j : Int) ∧ v = .int .i64 (cont l v0 (j - 1) : Int) ∧ AllC l j) (fun _ i => 2 - (intOf i).toNat)
  case atStart => exact ⟨1, by omega, by omega, rfl, rfl, fun j h1 h2 => by omega⟩
  case round =>
    obtain ⟨j, hj1, hj2, rfl, rfl, hA⟩ := hrel
    by_cases hj : j < 2
    · have hjI : (j : Int) < 2 := by omega
      have hj0 : (1 : Int) ≤ (j : Int) := by omega
      have hgj := HB.out j (by omega)
      obtain ⟨d, hd⟩ : ∃ d : UInt8, d = l.getD j 0 := ⟨_, rfl⟩
      rw [← hd] at hgj
      have hkj : (k : Int) + (j : Int) < (sb.size : Int) := by omega
      have hkj0 : (0 : Int) ≤ (k : Int) + (j : Int) := by omega
      have hct : cont l v0 (j - 1) < 1073741824 := by
        have := cont_lt l v0 HV.out (j - 1)
        have h3 : 64 ^ (j - 1) ≤ 64 ^ 3 := Nat.pow_le_pow_right (by decide) (by omega)
        omega
      obtain ⟨v, hv⟩ : ∃ v, v = cont l v0 (j - 1) := ⟨_, rfl⟩
      have hcs : cont l v0 (j + 1 - 1) = v * 64 + d.toNat % 64 := by
        rw [show j + 1 - 1 = (j - 1) + 1 by omega, cont, ← hv, show j - 1 + 1 = j by omega, ← hd]
      rw [← hv] at hct ⊢
      have hv1 : (v : Int) < 1073741824 := by omega
      have hv2 : (0 : Int) ≤ (v : Int) := by omega
      have hd63 := and63u d.toNat d.toNat_lt
      have hor : bits .or .i64 ((v : Int) * 64) ((d.toNat : Int) % 64) = ((v * 64 + d.toNat % 64 : Nat) : Int) := by
        have := or64i v (d.toNat % 64) hct (by omega)
        rwa [show ((d.toNat % 64 : Nat) : Int) = (d.toNat : Int) % 64 by omega] at this
      have HA := Lib.hid hA
      have HD := Lib.hid hd
      have HCS := Lib.hid hcs
      have HJ := Lib.hid (And.intro hj1 hj)
      clear hA hd hcs hv hj hj1 hj2 hct
      by_cases hd2 : d.toNat / 64 = 2
      · have q2 : (d.toNat : Int) / 64 = 2 := by omega
        have HD2 := Lib.hid hd2
        clear hd2
        go_wp2
        refine ⟨⟨j + 1, by omega, HJ.out.2, by go_num, ?_, fun i h1 h2 => ?_⟩, by have := HJ.out.2; simp [intOf]; omega⟩
        · rw [HCS.out]
          first | rfl | (rw [hor]) | (simp; omega)
        · rcases Nat.lt_or_ge i j with h | h
          · exact HA.out i h1 h
          · obtain rfl : i = j := by omega
            rw [← HD.out]; exact HD2.out
      · have q2 : ¬ (d.toNat : Int) / 64 = 2 := by omega
        have HR := Lib.hid (HL.out.2 (.inr (.inl ⟨j, HJ.out.1, HJ.out.2, by rw [← HD.out]; exact hd2⟩)))
        clear hd2 hv1 hor hd63
        have q3 : ((d.toNat : Int) / 64 == 2) = false := by simp; omega
        have q4 : ((d.toNat : Int) / 64 != 2) = true := by rw [bne, q3]; rfl
        clear q2
        go_wp2
        go_ret
        exact ⟨by rw [HR.out]; rfl, rfl⟩
    · obtain rfl : j = 2 := by omega
      obtain ⟨V, hV⟩ : ∃ V, V = cont l v0 (2 - 1) := ⟨_, rfl⟩
      rw [← hV]
      have hlaw := HL.out
      rw [← hV] at hlaw
      have hVl : V < 1073741824 := by
        have := cont_lt l v0 HV.out (2 - 1)
        have h3 : 64 ^ (2 - 1) ≤ 64 ^ 3 := Nat.pow_le_pow_right (by decide) (by omega)
        omega
      clear hV hVl hj hj1 hj2
      by_cases t1 : V < 128
      · have q1 : decide ((V : Int) < 128) = true := by simp; omega
        have HR := Lib.hid (hlaw.2 (.inr (.inr (.inl t1))))
        clear hlaw t1 hA
        go_wp2
        go_ret
        exact ⟨by rw [HR.out]; rfl, rfl⟩
      have q1 : decide ((V : Int) < 128) = false := by simp; omega
      by_cases t2 : 1114111 < V
      · have q2 : decide ((1114111 : Int) < (V : Int)) = true := by simp; omega
        have HR := Lib.hid (hlaw.2 (.inr (.inr (.inr (.inl t2)))))
        clear hlaw t1 t2 hA
        go_wp2
        go_ret
        exact ⟨by rw [HR.out]; rfl, rfl⟩
      have q2 : decide ((1114111 : Int) < (V : Int)) = false := by simp; omega
      by_cases t3 : 55296 ≤ V
      · have q3 : decide ((55296 : Int) ≤ (V : Int)) = true := by simp; omega
        by_cases t4 : V < 57344
        · have q4 : decide ((V : Int) < 57344) = true := by simp; omega
          have HR := Lib.hid (hlaw.2 (.inr (.inr (.inr (.inr ⟨t3, t4⟩)))))
          clear hlaw t1 t2 t3 t4 hA
          go_wp2
          go_ret
          exact ⟨by rw [HR.out]; rfl, rfl⟩
        · have q4 : decide ((V : Int) < 57344) = false := by simp; omega
          have HR := Lib.hid (hlaw.1 HLL.out hA (by omega) (by omega) (by omega))
          clear hlaw t1 t2 t3 t4 hA
          go_wp2
          go_ret
          exact ⟨by rw [HR.out]; rfl, rfl⟩
      · have q3 : decide ((55296 : Int) ≤ (V : Int)) = false := by simp; omega
        have HR := Lib.hid (hlaw.1 HLL.out hA (by omega) (by omega) (by omega))
        clear hlaw t1 t2 t3 hA
        go_wp2
        go_ret
        exact ⟨by rw [HR.out]; rfl, rfl⟩
set_option maxRecDepth 100000 in
set_option maxHeartbeats 800000 in
theorem rune3_any {sb : ByteArray} {k : Nat} {l : List UInt8} (h : StrAt sb k l) (hlen : sb.size ≤ 140737488355328) (hc : (l.getD 0 0).toNat / 16 = 14) (w : World) : Calls Tryd.prog 54 #[.string sb, .int .i64 (k : Int)] w fun e w' => e = .returned (.int .i64 (runeW l : Int)) ∧ w' = w := by
  obtain ⟨hll, hk, hby⟩ := h
  obtain ⟨c, hcd⟩ : ∃ c : UInt8, c = l.getD 0 0 := ⟨_, rfl⟩
  have hg := hby 0 hk
  rw [Nat.add_zero] at hg
  rw [← hcd] at hc hg
  have hkI : (0 : Int) ≤ (k : Int) := by omega
  have hkl : (k : Int) < (sb.size : Int) := by omega
  have hsl : (sb.size : Int) ≤ 140737488355328 := by omega
  have hc1 : (224 : Int) ≤ (c.toNat : Int) := by omega
  have hc2 : (c.toNat : Int) < 240 := by omega
  have hand := and15u c.toNat c.toNat_lt
  have hlaw := rune_law (l := l) (n := 3) (least := 2048) (v0 := c.toNat % 16) (by intro e; rw [e] at hll; simp at hll; omega) (by rw [← hcd]; exact .inr (.inl ⟨rfl, rfl, rfl, hc⟩))
  obtain ⟨v0, hv0⟩ : ∃ v0, v0 = c.toNat % 16 := ⟨_, rfl⟩
  rw [← hv0] at hlaw hand
  have hv32 : v0 < 32 := by omega
  have d32 : ((c.toNat : Int) / 32 == 6) = false := by simp; omega
  have d16 : ((c.toNat : Int) / 16 == 14) = true := by simp; omega
  clear hcd hv0
  by_cases hshort : l.length < 3
  · have hlt : (sb.size : Int) < (k : Int) + 3 := by omega
    have HR := Lib.hid (hlaw.2 (.inl hshort))
    clear hlaw hby hc hshort hll
    go_enter Tryd.func54, Tryd.ntmps54
    go_wp2
    go_ret
    exact ⟨by rw [HR.out]; rfl, rfl⟩
  have hnl : (k : Int) + 3 ≤ (sb.size : Int) := by omega
  have HL := Lib.hid hlaw
  have HLL := Lib.hid (show 3 ≤ l.length by omega)
  have HV := Lib.hid hv32
  have HB := Lib.hid hby
  clear hlaw hby hc hshort hll
  go_enter Tryd.func54, Tryd.ntmps54
  go_wp2
  go_loop [8, 9] (fun v i => ∃ j : Nat, 1 ≤ j ∧ j ≤ 3 ∧ i = .int .i64 (j : Int) ∧ v = .int .i64 (cont l v0 (j - 1) : Int) ∧ AllC l j) (fun _ i => 3 - (intOf i).toNat)
  case atStart => exact ⟨1, by omega, by omega, rfl, rfl, fun j h1 h2 => by omega⟩
  case round =>
    obtain ⟨j, hj1, hj2, rfl, rfl, hA⟩ := hrel
    by_cases hj : j < 3
    · have hjI : (j : Int) < 3 := by omega
      have hj0 : (1 : Int) ≤ (j : Int) := by omega
      have hgj := HB.out j (by omega)
      obtain ⟨d, hd⟩ : ∃ d : UInt8, d = l.getD j 0 := ⟨_, rfl⟩
      rw [← hd] at hgj
      have hkj : (k : Int) + (j : Int) < (sb.size : Int) := by omega
      have hkj0 : (0 : Int) ≤ (k : Int) + (j : Int) := by omega
      have hct : cont l v0 (j - 1) < 1073741824 := by
        have := cont_lt l v0 HV.out (j - 1)
        have h3 : 64 ^ (j - 1) ≤ 64 ^ 3 := Nat.pow_le_pow_right (by decide) (by omega)
        omega
      obtain ⟨v, hv⟩ : ∃ v, v = cont l v0 (j - 1) := ⟨_, rfl⟩
      have hcs : cont l v0 (j + 1 - 1) = v * 64 + d.toNat % 64 := by
        rw [show j + 1 - 1 = (j - 1) + 1 by omega, cont, ← hv, show j - 1 + 1 = j by omega, ← hd]
      rw [← hv] at hct ⊢
      have hv1 : (v : Int) < 1073741824 := by omega
      have hv2 : (0 : Int) ≤ (v : Int) := by omega
      have hd63 := and63u d.toNat d.toNat_lt
      have hor : bits .or .i64 ((v : Int) * 64) ((d.toNat : Int) % 64) = ((v * 64 + d.toNat % 64 : Nat) : Int) := by
        have := or64i v (d.toNat % 64) hct (by omega)
        rwa [show ((d.toNat % 64 : Nat) : Int) = (d.toNat : Int) % 64 by omega] at this
      have HA := Lib.hid hA
      have HD := Lib.hid hd
      have HCS := Lib.hid hcs
      have HJ := Lib.hid (And.intro hj1 hj)
      clear hA hd hcs hv hj hj1 hj2 hct
      by_cases hd2 : d.toNat / 64 = 2
      · have q2 : (d.toNat : Int) / 64 = 2 := by omega
        have HD2 := Lib.hid hd2
        clear hd2
        go_wp2
        refine ⟨⟨j + 1, by omega, HJ.out.2, by go_num, ?_, fun i h1 h2 => ?_⟩, by have := HJ.out.2; simp [intOf]; omega⟩
        · rw [HCS.out]
          first | rfl | (rw [hor]) | (simp; omega)
        · rcases Nat.lt_or_ge i j with h | h
          · exact HA.out i h1 h
          · obtain rfl : i = j := by omega
            rw [← HD.out]; exact HD2.out
      · have q2 : ¬ (d.toNat : Int) / 64 = 2 := by omega
        have HR := Lib.hid (HL.out.2 (.inr (.inl ⟨j, HJ.out.1, HJ.out.2, by rw [← HD.out]; exact hd2⟩)))
        clear hd2 hv1 hor hd63
        have q3 : ((d.toNat : Int) / 64 == 2) = false := by simp; omega
        have q4 : ((d.toNat : Int) / 64 != 2) = true := by rw [bne, q3]; rfl
        clear q2
        go_wp2
        go_ret
        exact ⟨by rw [HR.out]; rfl, rfl⟩
    · obtain rfl : j = 3 := by omega
      obtain ⟨V, hV⟩ : ∃ V, V = cont l v0 (3 - 1) := ⟨_, rfl⟩
      rw [← hV]
      have hlaw := HL.out
      rw [← hV] at hlaw
      have hVl : V < 1073741824 := by
        have := cont_lt l v0 HV.out (3 - 1)
        have h3 : 64 ^ (3 - 1) ≤ 64 ^ 3 := Nat.pow_le_pow_right (by decide) (by omega)
        omega
      clear hV hVl hj hj1 hj2
      by_cases t1 : V < 2048
      · have q1 : decide ((V : Int) < 2048) = true := by simp; omega
        have HR := Lib.hid (hlaw.2 (.inr (.inr (.inl t1))))
        clear hlaw t1 hA
        go_wp2
        go_ret
        exact ⟨by rw [HR.out]; rfl, rfl⟩
      have q1 : decide ((V : Int) < 2048) = false := by simp; omega
      by_cases t2 : 1114111 < V
      · have q2 : decide ((1114111 : Int) < (V : Int)) = true := by simp; omega
        have HR := Lib.hid (hlaw.2 (.inr (.inr (.inr (.inl t2)))))
        clear hlaw t1 t2 hA
        go_wp2
        go_ret
        exact ⟨by rw [HR.out]; rfl, rfl⟩
      have q2 : decide ((1114111 : Int) < (V : Int)) = false := by simp; omega
      by_cases t3 : 55296 ≤ V
      · have q3 : decide ((55296 : Int) ≤ (V : Int)) = true := by simp; omega
        by_cases t4 : V < 57344
        · have q4 : decide ((V : Int) < 57344) = true := by simp; omega
          have HR := Lib.hid (hlaw.2 (.inr (.inr (.inr (.inr ⟨t3, t4⟩)))))
          clear hlaw t1 t2 t3 t4 hA
          go_wp2
          go_ret
          exact ⟨by rw [HR.out]; rfl, rfl⟩
        · have q4 : decide ((V : Int) < 57344) = false := by simp; omega
          have HR := Lib.hid (hlaw.1 HLL.out hA (by omega) (by omega) (by omega))
          clear hlaw t1 t2 t3 t4 hA
          go_wp2
          go_ret
          exact ⟨by rw [HR.out]; rfl, rfl⟩
      · have q3 : decide ((55296 : Int) ≤ (V : Int)) = false := by simp; omega
        have HR := Lib.hid (hlaw.1 HLL.out hA (by omega) (by omega) (by omega))
        clear hlaw t1 t2 t3 hA
        go_wp2
        go_ret
        exact ⟨by rw [HR.out]; rfl, rfl⟩
set_option maxRecDepth 100000 in
set_option maxHeartbeats 800000 in
theorem rune4_any {sb : ByteArray} {k : Nat} {l : List UInt8} (h : StrAt sb k l) (hlen : sb.size ≤ 140737488355328) (hc : (l.getD 0 0).toNat / 8 = 30) (w : World) : Calls Tryd.prog 54 #[.string sb, .int .i64 (k : Int)] w fun e w' => e = .returned (.int .i64 (runeW l : Int)) ∧ w' = w := by
  obtain ⟨hll, hk, hby⟩ := h
  obtain ⟨c, hcd⟩ : ∃ c : UInt8, c = l.getD 0 0 := ⟨_, rfl⟩
  have hg := hby 0 hk
  rw [Nat.add_zero] at hg
  rw [← hcd] at hc hg
  have hkI : (0 : Int) ≤ (k : Int) := by omega
  have hkl : (k : Int) < (sb.size : Int) := by omega
  have hsl : (sb.size : Int) ≤ 140737488355328 := by omega
  have hc1 : (240 : Int) ≤ (c.toNat : Int) := by omega
  have hc2 : (c.toNat : Int) < 248 := by omega
  have hand := and7u c.toNat c.toNat_lt
  have hlaw := rune_law (l := l) (n := 4) (least := 65536) (v0 := c.toNat % 8) (by intro e; rw [e] at hll; simp at hll; omega) (by rw [← hcd]; exact .inr (.inr ⟨rfl, rfl, rfl, hc⟩))
  obtain ⟨v0, hv0⟩ : ∃ v0, v0 = c.toNat % 8 := ⟨_, rfl⟩
  rw [← hv0] at hlaw hand
  have hv32 : v0 < 32 := by omega
  have d32 : ((c.toNat : Int) / 32 == 6) = false := by simp; omega
  have d16 : ((c.toNat : Int) / 16 == 14) = false := by simp; omega
  have d8 : ((c.toNat : Int) / 8 == 30) = true := by simp; omega
  clear hcd hv0
  by_cases hshort : l.length < 4
  · have hlt : (sb.size : Int) < (k : Int) + 4 := by omega
    have HR := Lib.hid (hlaw.2 (.inl hshort))
    clear hlaw hby hc hshort hll
    go_enter Tryd.func54, Tryd.ntmps54
    go_wp2
    go_ret
    exact ⟨by rw [HR.out]; rfl, rfl⟩
  have hnl : (k : Int) + 4 ≤ (sb.size : Int) := by omega
  have HL := Lib.hid hlaw
  have HLL := Lib.hid (show 4 ≤ l.length by omega)
  have HV := Lib.hid hv32
  have HB := Lib.hid hby
  clear hlaw hby hc hshort hll
  go_enter Tryd.func54, Tryd.ntmps54
  go_wp2
  go_loop [8, 9] (fun v i => ∃ j : Nat, 1 ≤ j ∧ j ≤ 4 ∧ i = .int .i64 (j : Int) ∧ v = .int .i64 (cont l v0 (j - 1) : Int) ∧ AllC l j) (fun _ i => 4 - (intOf i).toNat)
  case atStart => exact ⟨1, by omega, by omega, rfl, rfl, fun j h1 h2 => by omega⟩
  case round =>
    obtain ⟨j, hj1, hj2, rfl, rfl, hA⟩ := hrel
    by_cases hj : j < 4
    · have hjI : (j : Int) < 4 := by omega
      have hj0 : (1 : Int) ≤ (j : Int) := by omega
      have hgj := HB.out j (by omega)
      obtain ⟨d, hd⟩ : ∃ d : UInt8, d = l.getD j 0 := ⟨_, rfl⟩
      rw [← hd] at hgj
      have hkj : (k : Int) + (j : Int) < (sb.size : Int) := by omega
      have hkj0 : (0 : Int) ≤ (k : Int) + (j : Int) := by omega
      have hct : cont l v0 (j - 1) < 1073741824 := by
        have := cont_lt l v0 HV.out (j - 1)
        have h3 : 64 ^ (j - 1) ≤ 64 ^ 3 := Nat.pow_le_pow_right (by decide) (by omega)
        omega
      obtain ⟨v, hv⟩ : ∃ v, v = cont l v0 (j - 1) := ⟨_, rfl⟩
      have hcs : cont l v0 (j + 1 - 1) = v * 64 + d.toNat % 64 := by
        rw [show j + 1 - 1 = (j - 1) + 1 by omega, cont, ← hv, show j - 1 + 1 = j by omega, ← hd]
      rw [← hv] at hct ⊢
      have hv1 : (v : Int) < 1073741824 := by omega
      have hv2 : (0 : Int) ≤ (v : Int) := by omega
      have hd63 := and63u d.toNat d.toNat_lt
      have hor : bits .or .i64 ((v : Int) * 64) ((d.toNat : Int) % 64) = ((v * 64 + d.toNat % 64 : Nat) : Int) := by
        have := or64i v (d.toNat % 64) hct (by omega)
        rwa [show ((d.toNat % 64 : Nat) : Int) = (d.toNat : Int) % 64 by omega] at this
      have HA := Lib.hid hA
      have HD := Lib.hid hd
      have HCS := Lib.hid hcs
      have HJ := Lib.hid (And.intro hj1 hj)
      clear hA hd hcs hv hj hj1 hj2 hct
      by_cases hd2 : d.toNat / 64 = 2
      · have q2 : (d.toNat : Int) / 64 = 2 := by omega
        have HD2 := Lib.hid hd2
        clear hd2
        go_wp2
        refine ⟨⟨j + 1, by omega, HJ.out.2, by go_num, ?_, fun i h1 h2 => ?_⟩, by have := HJ.out.2; simp [intOf]; omega⟩
        · rw [HCS.out]
          first | rfl | (rw [hor]) | (simp; omega)
        · rcases Nat.lt_or_ge i j with h | h
          · exact HA.out i h1 h
          · obtain rfl : i = j := by omega
            rw [← HD.out]; exact HD2.out
      · have q2 : ¬ (d.toNat : Int) / 64 = 2 := by omega
        have HR := Lib.hid (HL.out.2 (.inr (.inl ⟨j, HJ.out.1, HJ.out.2, by rw [← HD.out]; exact hd2⟩)))
        clear hd2 hv1 hor hd63
        have q3 : ((d.toNat : Int) / 64 == 2) = false := by simp; omega
        have q4 : ((d.toNat : Int) / 64 != 2) = true := by rw [bne, q3]; rfl
        clear q2
        go_wp2
        go_ret
        exact ⟨by rw [HR.out]; rfl, rfl⟩
    · obtain rfl : j = 4 := by omega
      obtain ⟨V, hV⟩ : ∃ V, V = cont l v0 (4 - 1) := ⟨_, rfl⟩
      rw [← hV]
      have hlaw := HL.out
      rw [← hV] at hlaw
      have hVl : V < 1073741824 := by
        have := cont_lt l v0 HV.out (4 - 1)
        have h3 : 64 ^ (4 - 1) ≤ 64 ^ 3 := Nat.pow_le_pow_right (by decide) (by omega)
        omega
      clear hV hVl hj hj1 hj2
      by_cases t1 : V < 65536
      · have q1 : decide ((V : Int) < 65536) = true := by simp; omega
        have HR := Lib.hid (hlaw.2 (.inr (.inr (.inl t1))))
        clear hlaw t1 hA
        go_wp2
        go_ret
        exact ⟨by rw [HR.out]; rfl, rfl⟩
      have q1 : decide ((V : Int) < 65536) = false := by simp; omega
      by_cases t2 : 1114111 < V
      · have q2 : decide ((1114111 : Int) < (V : Int)) = true := by simp; omega
        have HR := Lib.hid (hlaw.2 (.inr (.inr (.inr (.inl t2)))))
        clear hlaw t1 t2 hA
        go_wp2
        go_ret
        exact ⟨by rw [HR.out]; rfl, rfl⟩
      have q2 : decide ((1114111 : Int) < (V : Int)) = false := by simp; omega
      by_cases t3 : 55296 ≤ V
      · have q3 : decide ((55296 : Int) ≤ (V : Int)) = true := by simp; omega
        by_cases t4 : V < 57344
        · have q4 : decide ((V : Int) < 57344) = true := by simp; omega
          have HR := Lib.hid (hlaw.2 (.inr (.inr (.inr (.inr ⟨t3, t4⟩)))))
          clear hlaw t1 t2 t3 t4 hA
          go_wp2
          go_ret
          exact ⟨by rw [HR.out]; rfl, rfl⟩
        · have q4 : decide ((V : Int) < 57344) = false := by simp; omega
          have HR := Lib.hid (hlaw.1 HLL.out hA (by omega) (by omega) (by omega))
          clear hlaw t1 t2 t3 t4 hA
          go_wp2
          go_ret
          exact ⟨by rw [HR.out]; rfl, rfl⟩
      · have q3 : decide ((55296 : Int) ≤ (V : Int)) = false := by simp; omega
        have HR := Lib.hid (hlaw.1 HLL.out hA (by omega) (by omega) (by omega))
        clear hlaw t1 t2 t3 hA
        go_wp2
        go_ret
        exact ⟨by rw [HR.out]; rfl, rfl⟩
set_option maxRecDepth 100000 in
set_option maxHeartbeats 800000 in
theorem rune1_any {sb : ByteArray} {k : Nat} {l : List UInt8} (h : StrAt sb k l) (hlen : sb.size ≤ 140737488355328) (hc : (l.getD 0 0).toNat < 128) (w : World) : Calls Tryd.prog 54 #[.string sb, .int .i64 (k : Int)] w fun e w' => e = .returned (.int .i64 (runeW l : Int)) ∧ w' = w := by
  obtain ⟨hll, hk, hby⟩ := h
  have hg := hby 0 hk
  rw [Nat.add_zero] at hg
  have HR : Hid (runeW l = 1) := by
    show _ = _
    match l, hc, hll with
    | [], _, h => simp at h; omega
    | a :: l, hc, _ => exact runeW_ascii a l hc
  obtain ⟨c, hcd⟩ : ∃ c : UInt8, c = l.getD 0 0 := ⟨_, rfl⟩
  rw [← hcd] at hc hg
  have hkI : (0 : Int) ≤ (k : Int) := by omega
  have hkl : (k : Int) < (sb.size : Int) := by omega
  have hsl : (sb.size : Int) ≤ 140737488355328 := by omega
  have hc2 : (c.toNat : Int) < 128 := by omega
  clear hcd hby hll hc
  go_enter Tryd.func54, Tryd.ntmps54
  go_wp2
  go_ret
  exact ⟨by rw [HR.out]; rfl, rfl⟩
set_option maxRecDepth 100000 in
set_option maxHeartbeats 800000 in
theorem rune0_any {sb : ByteArray} {k : Nat} {l : List UInt8} (h : StrAt sb k l) (hlen : sb.size ≤ 140737488355328) (h1 : ¬ (l.getD 0 0).toNat < 128) (h2 : (l.getD 0 0).toNat / 32 ≠ 6) (h3 : (l.getD 0 0).toNat / 16 ≠ 14) (h4 : (l.getD 0 0).toNat / 8 ≠ 30) (w : World) : Calls Tryd.prog 54 #[.string sb, .int .i64 (k : Int)] w fun e w' => e = .returned (.int .i64 (runeW l : Int)) ∧ w' = w := by
  have HR := Lib.hid (rune_no h1 h2 h3 h4)
  obtain ⟨hll, hk, hby⟩ := h
  have hg := hby 0 hk
  rw [Nat.add_zero] at hg
  obtain ⟨c, hcd⟩ : ∃ c : UInt8, c = l.getD 0 0 := ⟨_, rfl⟩
  rw [← hcd] at h1 h2 h3 h4 hg
  have hkI : (0 : Int) ≤ (k : Int) := by omega
  have hkl : (k : Int) < (sb.size : Int) := by omega
  have hsl : (sb.size : Int) ≤ 140737488355328 := by omega
  have hc1 : (128 : Int) ≤ (c.toNat : Int) := by omega
  have d2 : ((c.toNat : Int) / 32 == 6) = false := by simp; omega
  have d3 : ((c.toNat : Int) / 16 == 14) = false := by simp; omega
  have d4 : ((c.toNat : Int) / 8 == 30) = false := by simp; omega
  clear hcd hby hll h1 h2 h3 h4
  go_enter Tryd.func54, Tryd.ntmps54
  go_wp2
  go_ret
  exact ⟨by rw [HR.out]; rfl, rfl⟩
theorem rune_any {sb : ByteArray} {k : Nat} {l : List UInt8} (h : StrAt sb k l) (hlen : sb.size ≤ 140737488355328) (w : World) : Calls Tryd.prog 54 #[.string sb, .int .i64 (k : Int)] w fun e w' => e = .returned (.int .i64 (runeW l : Int)) ∧ w' = w := by
  by_cases h1 : (l.getD 0 0).toNat < 128
  · exact rune1_any h hlen h1 w
  by_cases h2 : (l.getD 0 0).toNat / 32 = 6
  · exact rune2_any h hlen h2 w
  by_cases h3 : (l.getD 0 0).toNat / 16 = 14
  · exact rune3_any h hlen h3 w
  by_cases h4 : (l.getD 0 0).toNat / 8 = 30
  · exact rune4_any h hlen h4 w
  exact rune0_any h hlen h1 h2 h3 h4 w
end Go.Proofs.YtkbopeoaoakfnaaDoor

namespace Go.Proofs.YtkbopeoaoakfnaaDoor
open Go.RowKit
theorem i64_and63 (a : Nat) (ha : a < 9223372036854775808) : bits .and .i64 (a : Int) 63 = ((a % 64 : Nat) : Int) := by
  have hx : a &&& 63 = a % 64 := Nat.and_two_pow_sub_one_eq_mod a 6
  show IntKind.i64.wrap ((BitVec.ofInt 64 (a : Int) &&& BitVec.ofInt 64 (63 : Int)).toNat : Int) = _
  rw [BitVec.toNat_and, ofInt_i64 a ha, show (BitVec.ofInt 64 (63 : Int)).toNat = 63 from rfl, hx, IntKind.wrap_i64]
  omega
theorem i64_orh (x m k : Nat) (hm : m < 2 ^ k) (hk : k ≤ 8) (hx : x ≤ 255) : bits .or .i64 (((x * 2 ^ k : Nat)) : Int) (m : Int) = ((x * 2 ^ k + m : Nat) : Int) := by
  have h2 : 2 ^ k ≤ 2 ^ 8 := Nat.pow_le_pow_right (by decide) hk
  have h3 : x * 2 ^ k ≤ 255 * 2 ^ 8 := Nat.mul_le_mul hx h2
  rw [i64_or_nat _ _ (by omega) (by omega), or_add x m k hm]
theorem or192 (m : Nat) (h : m < 32) : bits .or .i64 192 (m : Int) = ((192 + m : Nat) : Int) := i64_orh 6 m 5 h (by decide) (by decide)
theorem or224 (m : Nat) (h : m < 16) : bits .or .i64 224 (m : Int) = ((224 + m : Nat) : Int) := i64_orh 14 m 4 h (by decide) (by decide)
theorem or240 (m : Nat) (h : m < 8) : bits .or .i64 240 (m : Int) = ((240 + m : Nat) : Int) := i64_orh 30 m 3 h (by decide) (by decide)
theorem or128 (m : Nat) (h : m < 64) : bits .or .i64 128 (m : Int) = ((128 + m : Nat) : Int) := i64_orh 2 m 6 h (by decide) (by decide)
theorem str_built (w1 : World) (l : List UInt8) (cs : Array Value) (hcs : cs = (bvs l).toArray) (n : Nat) (hn : l.length = n) : (convert 64 9 (.slice (some ⟨w1.heap.size, 0, none⟩) n n)).run Tryd.prog (w1.alloc (.cells cs 5)) = .ok (.string ⟨l.toArray⟩) (w1.alloc (.cells cs 5)) := by
  subst hcs
  exact run_str8 (reads_block (heap_alloc_new w1 _) hn) n
theorem bvb (x : Nat) (h : x < 256) : bv (UInt8.ofNat x) = .int .u8 (x : Int) := by unfold bv; rw [UInt8.toNat_ofNat', Nat.mod_eq_of_lt h]
theorem byte_of (x : Nat) (h : x < 256) : ((UInt8.ofNat x).toNat : Int) = (x : Int) := by simp; omega
theorem enc_byte (x : Nat) (z : Int) (hz : z = (x : Int)) : z.toNat.toUInt8 = UInt8.ofNat x := by subst hz; rfl
set_option maxRecDepth 100000 in
set_option maxHeartbeats 400000 in
theorem utf8_any (v : Nat) (hv : v ≤ 1114111) (hs : v < 55296 ∨ 57343 < v) (w : World) : Calls Tryd.prog 55 #[.int .i64 (v : Int)] w fun e w' => e = .returned (.string ⟨(Lib.encodeRune (v : Int)).toArray⟩) ∧ Below w.heap.size w w' := by
  have B : ∀ cs, Below w.heap.size w (w.alloc (.cells cs 5)) := fun cs => (Below.refl _ _).alloc (Nat.le_refl _) _
  have HB := Lib.hid B
  clear B
  have hv0 : (0 : Int) ≤ (v : Int) := by omega
  by_cases h1 : v ≤ 127
  · have HE : Hid (Lib.encodeRune (v : Int) = [UInt8.ofNat v]) := by
      show _ = _
      unfold Lib.encodeRune
      rw [Lib.encodeRuneZ_one (by omega) (by omega)]
      simp only [List.map_cons, List.map_nil]
      rw [enc_byte v _ rfl]
    have d1 : (v : Int) < 128 := by omega
    have rs := str_built w [UInt8.ofNat v] #[.int .u8 (v : Int)] (by simp only [bvs, List.map_cons, List.map_nil]; rw [bvb v (by omega)]) 1 rfl
    clear h1 hv hs
    go_enter Tryd.func55, Tryd.ntmps55
    go_wp2
    go_ret
    exact ⟨by rw [HE.out]; rfl, HB.out _⟩
  have d1 : decide ((v : Int) < 128) = false := by simp; omega
  by_cases h2 : v ≤ 2047
  · have HE : Hid (Lib.encodeRune (v : Int) = [UInt8.ofNat (192 + v / 64), UInt8.ofNat (128 + v % 64)]) := by
      show _ = _
      unfold Lib.encodeRune
      rw [Lib.encodeRuneZ_two (by omega) (by omega)]
      simp only [List.map_cons, List.map_nil]
      rw [enc_byte (192 + v / 64) _ (by omega), enc_byte (128 + v % 64) _ (by omega)]
    have d2 : decide ((v : Int) < 2048) = true := by simp; omega
    obtain ⟨a, ha⟩ : ∃ a, a = 192 + v / 64 := ⟨_, rfl⟩
    obtain ⟨b, hb⟩ : ∃ b, b = 128 + v % 64 := ⟨_, rfl⟩
    have o1 : bits .or .i64 192 ((v : Int) / 64) = (a : Int) := by have := or192 (v / 64) (by omega); rw [← ha] at this; exact_mod_cast this
    have n2 : bits .and .i64 (v : Int) 63 = (v : Int) % 64 := by have := i64_and63 v (by omega); exact_mod_cast this
    have o2 : bits .or .i64 128 ((v : Int) % 64) = (b : Int) := by have := or128 (v % 64) (by omega); rw [← hb] at this; exact_mod_cast this
    have a0 : (0 : Int) ≤ (a : Int) := by omega
    have a1 : (a : Int) < 256 := by omega
    have b0 : (0 : Int) ≤ (b : Int) := by omega
    have b1 : (b : Int) < 256 := by omega
    have rs := str_built w [UInt8.ofNat a, UInt8.ofNat b] #[.int .u8 (a : Int), .int .u8 (b : Int)] (by simp only [bvs, List.map_cons, List.map_nil]; rw [bvb a (by omega), bvb b (by omega)]) 2 rfl
    rw [← ha, ← hb] at HE
    clear h1 h2 hv hs ha hb
    go_enter Tryd.func55, Tryd.ntmps55
    go_wp2
    go_ret
    exact ⟨by rw [HE.out]; rfl, HB.out _⟩
  have d2 : decide ((v : Int) < 2048) = false := by simp; omega
  by_cases h3 : v ≤ 65535
  · have HE : Hid (Lib.encodeRune (v : Int) = [UInt8.ofNat (224 + v / 4096), UInt8.ofNat (128 + v / 64 % 64), UInt8.ofNat (128 + v % 64)]) := by
      show _ = _
      unfold Lib.encodeRune
      rw [Lib.encodeRuneZ_three (by omega)]
      simp only [List.map_cons, List.map_nil]
      rw [enc_byte (224 + v / 4096) _ (by omega), enc_byte (128 + v / 64 % 64) _ (by omega), enc_byte (128 + v % 64) _ (by omega)]
    have d3 : decide ((v : Int) < 65536) = true := by simp; omega
    obtain ⟨a, ha⟩ : ∃ a, a = 224 + v / 4096 := ⟨_, rfl⟩
    obtain ⟨b, hb⟩ : ∃ b, b = 128 + v / 64 % 64 := ⟨_, rfl⟩
    obtain ⟨c, hc⟩ : ∃ c, c = 128 + v % 64 := ⟨_, rfl⟩
    have o1 : bits .or .i64 224 ((v : Int) / 4096) = (a : Int) := by have := or224 (v / 4096) (by omega); rw [← ha] at this; exact_mod_cast this
    have n2 : bits .and .i64 ((v : Int) / 64) 63 = (v : Int) / 64 % 64 := by have := i64_and63 (v / 64) (by omega); exact_mod_cast this
    have o2 : bits .or .i64 128 ((v : Int) / 64 % 64) = (b : Int) := by have := or128 (v / 64 % 64) (by omega); rw [← hb] at this; exact_mod_cast this
    have n3 : bits .and .i64 (v : Int) 63 = (v : Int) % 64 := by have := i64_and63 v (by omega); exact_mod_cast this
    have o3 : bits .or .i64 128 ((v : Int) % 64) = (c : Int) := by have := or128 (v % 64) (by omega); rw [← hc] at this; exact_mod_cast this
    have a0 : (0 : Int) ≤ (a : Int) := by omega
    have a1 : (a : Int) < 256 := by omega
    have b0 : (0 : Int) ≤ (b : Int) := by omega
    have b1 : (b : Int) < 256 := by omega
    have c0 : (0 : Int) ≤ (c : Int) := by omega
    have c1 : (c : Int) < 256 := by omega
    have rs := str_built w [UInt8.ofNat a, UInt8.ofNat b, UInt8.ofNat c] #[.int .u8 (a : Int), .int .u8 (b : Int), .int .u8 (c : Int)] (by simp only [bvs, List.map_cons, List.map_nil]; rw [bvb a (by omega), bvb b (by omega), bvb c (by omega)]) 3 rfl
    rw [← ha, ← hb, ← hc] at HE
    clear h1 h2 h3 hv hs ha hb hc
    go_enter Tryd.func55, Tryd.ntmps55
    go_wp2
    go_ret
    exact ⟨by rw [HE.out]; rfl, HB.out _⟩
  have d3 : decide ((v : Int) < 65536) = false := by simp; omega
  have HE : Hid (Lib.encodeRune (v : Int) = [UInt8.ofNat (240 + v / 262144), UInt8.ofNat (128 + v / 4096 % 64), UInt8.ofNat (128 + v / 64 % 64), UInt8.ofNat (128 + v % 64)]) := by
    show _ = _
    unfold Lib.encodeRune
    rw [Lib.encodeRuneZ_four (by omega) (by omega)]
    simp only [List.map_cons, List.map_nil]
    rw [enc_byte (240 + v / 262144) _ (by omega), enc_byte (128 + v / 4096 % 64) _ (by omega), enc_byte (128 + v / 64 % 64) _ (by omega), enc_byte (128 + v % 64) _ (by omega)]
  obtain ⟨a, ha⟩ : ∃ a, a = 240 + v / 262144 := ⟨_, rfl⟩
  obtain ⟨b, hb⟩ : ∃ b, b = 128 + v / 4096 % 64 := ⟨_, rfl⟩
  obtain ⟨c, hc⟩ : ∃ c, c = 128 + v / 64 % 64 := ⟨_, rfl⟩
  obtain ⟨d, hd⟩ : ∃ d, d = 128 + v % 64 := ⟨_, rfl⟩
  have o1 : bits .or .i64 240 ((v : Int) / 262144) = (a : Int) := by have := or240 (v / 262144) (by omega); rwa [← ha, show ((v / 262144 : Nat) : Int) = (v : Int) / 262144 by omega] at this
  have n2 : bits .and .i64 ((v : Int) / 4096) 63 = (v : Int) / 4096 % 64 := by have := i64_and63 (v / 4096) (by omega); rwa [show ((v / 4096 : Nat) : Int) = (v : Int) / 4096 by omega, show ((v / 4096 % 64 : Nat) : Int) = (v : Int) / 4096 % 64 by omega] at this
  have o2 : bits .or .i64 128 ((v : Int) / 4096 % 64) = (b : Int) := by have := or128 (v / 4096 % 64) (by omega); rwa [← hb, show ((v / 4096 % 64 : Nat) : Int) = (v : Int) / 4096 % 64 by omega] at this
  have n3 : bits .and .i64 ((v : Int) / 64) 63 = (v : Int) / 64 % 64 := by have := i64_and63 (v / 64) (by omega); exact_mod_cast this
  have o3 : bits .or .i64 128 ((v : Int) / 64 % 64) = (c : Int) := by have := or128 (v / 64 % 64) (by omega); rw [← hc] at this; exact_mod_cast this
  have n4 : bits .and .i64 (v : Int) 63 = (v : Int) % 64 := by have := i64_and63 v (by omega); exact_mod_cast this
  have o4 : bits .or .i64 128 ((v : Int) % 64) = (d : Int) := by have := or128 (v % 64) (by omega); rw [← hd] at this; exact_mod_cast this
  have a0 : (0 : Int) ≤ (a : Int) := by omega
  have a1 : (a : Int) < 256 := by omega
  have b0 : (0 : Int) ≤ (b : Int) := by omega
  have b1 : (b : Int) < 256 := by omega
  have c0 : (0 : Int) ≤ (c : Int) := by omega
  have c1 : (c : Int) < 256 := by omega
  have e0 : (0 : Int) ≤ (d : Int) := by omega
  have e1 : (d : Int) < 256 := by omega
  have rs := str_built w [UInt8.ofNat a, UInt8.ofNat b, UInt8.ofNat c, UInt8.ofNat d] #[.int .u8 (a : Int), .int .u8 (b : Int), .int .u8 (c : Int), .int .u8 (d : Int)] (by simp only [bvs, List.map_cons, List.map_nil]; rw [bvb a (by omega), bvb b (by omega), bvb c (by omega), bvb d (by omega)]) 4 rfl
  rw [← ha, ← hb, ← hc, ← hd] at HE
  clear h1 h2 h3 hv hs ha hb hc hd
  go_enter Tryd.func55, Tryd.ntmps55
  go_wp2
  go_ret
  exact ⟨by rw [HE.out]; rfl, HB.out _⟩
end Go.Proofs.YtkbopeoaoakfnaaDoor
