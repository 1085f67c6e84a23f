/- The law DiskFuse. No conditions. -/
import Derived.Test.YtdggibigfocadaaLFuse0
import Derived.Test.YtdggibigfocadaaArgU8
import Derived.Test.YtdggibigfocadaaArgBools
namespace Go.Proofs.Ytdggibigfocadaa
open Go.RowKit
set_option maxRecDepth 100000 in
set_option maxHeartbeats 4000000 in
theorem DiskFuse_any (n : UInt8) (ks : List Bool) (w : World) {A : Option Addr} {c : Nat} (hks : Reads w w.heap.size 1 A ks.length (ks.map Value.bool)) (hmax : ks.length ≤ 9223372036854775807) : Calls Try.prog 5 #[.int .u8 (n.toNat : Int), .slice A ks.length c] w fun e w' => e = .returned (.bool true) ∧ Below w.heap.size w w' := by
  have hn := n.toNat_lt
  have hn' : (n.toNat : Int) < 256 := by omega
  have Hmx : ∀ k, k < ks.length → (k : Int) + 1 ≤ 9223372036854775807 := fun k hk => by omega
  have Hks := Lib.hid hks
  have Hn := Lib.hid hn
  clear hks hn hmax
  go_enter Try.func5, Try.ntmps5
  go_wp2_with (first
    | (go_at_call 8; go_must (refine (awake_any _).mono ?_; rintro e w0 ⟨rfl, hb0⟩))
    | (go_at_call 9; go_must (refine (New_dk (H := []) (w0 := w) 64 (by omega) (by omega) hb0 (fun p hp => by cases hp)).mono ?_; rintro e w1 ⟨g, rfl, hD1⟩; have H1 := Lib.hid hD1; clear hD1))
    | (go_at_call 18; go_must (refine (SetFuse_dk H1.out _).mono ?_; rintro e w2 ⟨rfl, hD2⟩; have H2 := Lib.hid hD2; clear hD2 H1)))
  go_loopw [23] (fun i wr => ∃ (k : Nat) (s : DS), k ≤ ks.length ∧ i = .int .i64 k ∧ Hid (FuseInv n.toNat k s) ∧ Hid (DK w wr g s [])) (fun i _ => ks.length - (intOf i).toNat)
  case atStart => exact ⟨0, _, Nat.zero_le _, rfl, FuseInv.start _, H2.out⟩
  case round =>
    obtain ⟨k, s, hk, rfl, hI, hD⟩ := hrel
    clear H2
    by_cases hlt : k < ks.length
    · have hlt' : (k : Int) < (ks.length : Int) := by omega
      have hk0 : (0 : Int) ≤ (k : Int) := by omega
      obtain ⟨b, off, u, rfl, hb, hu, hcell⟩ := (Hks.out.below hD.out.below0).at_ hlt
      obtain ⟨kd, hkd⟩ : ∃ kd, ks[k]? = some kd := ⟨_, List.getElem?_eq_getElem hlt⟩
      obtain rfl : u = .bool kd := by simp [hkd] at hu; exact hu.symm
      clear hu hkd
      have hmx := Hmx k hlt
      cases kd with
      | true =>
        by_cases hi : k < n.toNat
        · skip
          obtain ⟨s', hs', hI'⟩ := hI.out.sync Hn.out
          rw [if_pos hi] at hs'
          have Hs := Lib.hid hs'
          have hid' : s'.down = false := by rw [hI'.down, decide_eq_false (by omega)]
          have Hd := Lib.hid hid'
          have HI := Lib.hid hI'
          clear hs' hI' hid'
          have hi' : (k : Int) < (n.toNat : Int) := by omega
          have hi2 : decide (n.toNat ≤ k) = false := decide_eq_false (by omega)
          go_wp2_with (first
            | (go_at_call 13; go_must (refine (Sync_dk hD.out).mono ?_; rintro e w3 ⟨rfl, hD3⟩; rw [Hs.out] at hD3 ⊢; have H3 := Lib.hid hD3; clear hD3))
            | (go_at_call 17; go_must (refine (Down_dk H3.out).mono ?_; rintro e w4 ⟨rfl, rfl⟩; rw [Hd.out])))
          go_roundw
          case rel => exact ⟨k + 1, s', hlt, by go_num, HI, H3⟩
          case measure => simp [intOf]; omega
        · skip
          obtain ⟨s', hs', hI'⟩ := hI.out.sync Hn.out
          rw [if_neg hi] at hs'
          have Hs := Lib.hid hs'
          have hid' : s'.down = true := by rw [hI'.down, decide_eq_true (by omega)]
          have Hd := Lib.hid hid'
          have HI := Lib.hid hI'
          clear hs' hI' hid'
          have hi' : ¬ ((k : Int) < (n.toNat : Int)) := by omega
          have hi2 : decide (n.toNat ≤ k) = true := decide_eq_true (by omega)
          have hi3 : n.toNat ≤ k := by omega
          go_wp2_with (first
            | (go_at_call 13; go_must (refine (Sync_dk hD.out).mono ?_; rintro e w3 ⟨rfl, hD3⟩; rw [Hs.out] at hD3 ⊢; have H3 := Lib.hid hD3; clear hD3))
            | (go_at_call 17; go_must (refine (Down_dk H3.out).mono ?_; rintro e w4 ⟨rfl, rfl⟩; rw [Hd.out])))
          go_roundw
          case rel => exact ⟨k + 1, s', hlt, by go_num, HI, H3⟩
          case measure => simp [intOf]; omega
      | false =>
        by_cases hi : k < n.toNat
        · skip
          obtain ⟨s', hs', hI'⟩ := hI.out.write (x := (k : Int) % 64) (d := fillB 7) Hn.out (by omega)
          have hpl : (s.pend.length + 1) * 72 ≤ 140737488355328 := by have := hI.out.pend; have := Hn.out; omega
          have Hpl := Lib.hid hpl
          clear hpl
          rw [if_pos hi] at hs'
          have Hs := Lib.hid hs'
          have hid' : s'.down = false := by rw [hI'.down, decide_eq_false (by omega)]
          have Hd := Lib.hid hid'
          have HI := Lib.hid hI'
          clear hs' hI' hid'
          have hi' : (k : Int) < (n.toNat : Int) := by omega
          have hi2 : decide (n.toNat ≤ k) = false := decide_eq_false (by omega)
          go_wp2_with (first
            | (go_at_call 11; go_must (refine (filled_any 7 _).mono ?_; rintro e w2 ⟨rfl, hb2⟩; have H2 := Lib.hid (hD.out.below hb2); clear hb2))
            | (go_at_call 10; go_must (refine (Write_dk H2.out _ (fillB 7) (fillB_length 7) Hpl.out).mono ?_; rintro e w3 ⟨rfl, hD3⟩; rw [Hs.out] at hD3 ⊢; have H3 := Lib.hid hD3; clear hD3))
            | (go_at_call 17; go_must (refine (Down_dk H3.out).mono ?_; rintro e w4 ⟨rfl, rfl⟩; rw [Hd.out])))
          go_roundw
          case rel => exact ⟨k + 1, s', hlt, by go_num, HI, H3⟩
          case measure => simp [intOf]; omega
        · skip
          obtain ⟨s', hs', hI'⟩ := hI.out.write (x := (k : Int) % 64) (d := fillB 7) Hn.out (by omega)
          have hpl : (s.pend.length + 1) * 72 ≤ 140737488355328 := by have := hI.out.pend; have := Hn.out; omega
          have Hpl := Lib.hid hpl
          clear hpl
          rw [if_neg hi] at hs'
          have Hs := Lib.hid hs'
          have hid' : s'.down = true := by rw [hI'.down, decide_eq_true (by omega)]
          have Hd := Lib.hid hid'
          have HI := Lib.hid hI'
          clear hs' hI' hid'
          have hi' : ¬ ((k : Int) < (n.toNat : Int)) := by omega
          have hi2 : decide (n.toNat ≤ k) = true := decide_eq_true (by omega)
          have hi3 : n.toNat ≤ k := by omega
          go_wp2_with (first
            | (go_at_call 11; go_must (refine (filled_any 7 _).mono ?_; rintro e w2 ⟨rfl, hb2⟩; have H2 := Lib.hid (hD.out.below hb2); clear hb2))
            | (go_at_call 10; go_must (refine (Write_dk H2.out _ (fillB 7) (fillB_length 7) Hpl.out).mono ?_; rintro e w3 ⟨rfl, hD3⟩; rw [Hs.out] at hD3 ⊢; have H3 := Lib.hid hD3; clear hD3))
            | (go_at_call 17; go_must (refine (Down_dk H3.out).mono ?_; rintro e w4 ⟨rfl, rfl⟩; rw [Hd.out])))
          go_roundw
          case rel => exact ⟨k + 1, s', hlt, by go_num, HI, H3⟩
          case measure => simp [intOf]; omega
    · obtain rfl : k = ks.length := by omega
      go_wp2_with (first
        | (go_at_call 15; go_must (refine (Restart_dk hD.out (ch := []) Reads.none_).mono ?_; rintro e w3 ⟨rfl, hD3⟩; have H3 := Lib.hid hD3; clear hD3))
        | (go_at_call 13; go_must (refine (Sync_dk H3.out).mono ?_; rintro e w4 ⟨rfl, hD4⟩; rw [show (s.restart []).sync.1 = 0 from rfl]; have H4 := Lib.hid hD4; clear hD4))
        | (go_at_call 17; go_must (refine (Down_dk H4.out).mono ?_; rintro e w5 ⟨rfl, rfl⟩; rw [show (s.restart []).sync.2.down = false from rfl])))
      go_ret
      exact ⟨rfl, H4.out.below0⟩
theorem DiskFuse_walk (v0 v1 : Value) (n : UInt8) (ks : List Bool) (w : World) (a0 : ArgU8 v0 n) (a1 : ArgBs w v1 ks) : Calls Try.prog 5 #[v0, v1] w fun e w' => e = .returned (.bool true) ∧ Below w.heap.size w w' := by
  obtain ⟨A, c, rfl, hr, hm⟩ := a1
  rw [a0]
  exact DiskFuse_any n ks w hr hm
end Go.Proofs.Ytdggibigfocadaa
