/- The walks of both Devices. No conditions. -/
import Derived.Test.YtbpgbihcihnieaaW12
import Derived.Deep.MidRow
namespace Go.Proofs.Ytbpgbihcihnieaa
open Go.RowKit

/-- A [][32]byte that reads hs. -/
def Hsh (w : World) (B : Nat) (A : Option Addr) (hs : List (List UInt8)) : Prop :=
  0 < hs.length → ∃ b off, A = some ⟨b, off, none⟩ ∧ b < B ∧ ∀ (i : Nat) (h : i < hs.length), hs[i].length = 32 ∧ w.rangeAt b (off + i * 32) (bvs hs[i])
theorem Hsh.at_ {w : World} {B : Nat} {A : Option Addr} {hs : List (List UInt8)} (h : Hsh w B A hs) {k : Nat} (hk : k < hs.length) : ∃ b off, A = some ⟨b, off, none⟩ ∧ b < B ∧ (∀ i (h : i < hs.length), ∃ l, Hid (hs[i] = l) ∧ l.length = 32 ∧ w.rangeAt b (off + i * 32) (bvs l) ∧ Reads w B 1 (some ⟨b, off + i * 32, none⟩) 32 (bvs l)) := by
  obtain ⟨b, off, h1, h2, h3⟩ := h (by omega)
  refine ⟨b, off, h1, h2, fun i hi => ⟨hs[i], rfl, (h3 i hi).1, (h3 i hi).2, ?_, fun _ => ⟨_, rfl, h2, fun j u hu => ?_⟩⟩⟩
  · rw [bvs_length]; have := (h3 i hi).1; omega
  · rw [add_none]; exact (h3 i hi).2 j u hu
theorem rangeAt_below {w w' : World} {B b o : Nat} {cs : List Value} (h : w.rangeAt b o cs) (hb : Below B w w') (hlt : b < B) : w'.rangeAt b o cs := fun j v hv => (hb.cell (p := ⟨b, o + j, none⟩) hlt).trans (h j v hv)
theorem Hsh.below {w w' : World} {B : Nat} {A : Option Addr} {hs : List (List UInt8)} (h : Hsh w B A hs) (hb : Below B w w') : Hsh w' B A hs := fun h0 => by
  obtain ⟨b, off, h1, h2, h3⟩ := h h0
  exact ⟨b, off, h1, h2, fun i hi => ⟨(h3 i hi).1, rangeAt_below (h3 i hi).2 hb h2⟩⟩
theorem Hsh.more {w : World} {B B' : Nat} {A : Option Addr} {hs : List (List UInt8)} (h : Hsh w B A hs) (hB : B ≤ B') : Hsh w B' A hs := fun h0 => by
  obtain ⟨b, off, h1, h2, h3⟩ := h h0
  exact ⟨b, off, h1, by omega, h3⟩

def ascP (hs : List (List UInt8)) (k : Nat) : Prop := ∀ i (h : i + 1 < hs.length), i + 1 < k → belowB hs[i] hs[i + 1] = true
def devP (hs : List (List UInt8)) : Prop := ascP hs hs.length ∧ hs.length ≤ 8
def DevPost (hs : List (List UInt8)) (w : World) (e : Ending) (w' : World) : Prop := ∃ b, e = .returned (.bool b) ∧ (b = true ↔ devP hs) ∧ Below w.heap.size w w'
theorem DevPost.no {hs : List (List UInt8)} {w w' : World} (h : ¬ devP hs) (hb : Below w.heap.size w w') : DevPost hs w (.returned (.bool false)) w' := ⟨false, rfl, by simp [h], hb⟩
theorem ascP_no {hs : List (List UInt8)} {k : Nat} {l m : List UInt8} (h : k + 1 < hs.length) (hl : hs[k] = l) (hm : hs[k + 1] = m) (hb : belowB l m = false) : ¬ devP hs := fun hd => by
  have := hd.1 k h (by omega)
  rw [hl, hm, hb] at this; cases this
theorem ascP_succ {hs : List (List UInt8)} {k : Nat} {l m : List UInt8} (ha : ascP hs (k + 1)) (h : k + 1 < hs.length) (hl : hs[k] = l) (hm : hs[k + 1] = m) (hb : belowB l m = true) : ascP hs (k + 2) := fun i hi hik => by
  by_cases hk : i = k
  · subst hk; rw [hl, hm]; exact hb
  · exact ha i hi (by omega)

theorem Compare_at {A A2 : Option Addr} {n c m c2 B B2 : Nat} {l l2 : List UInt8} {w : World} (hr : Reads w B 1 A n (bvs l)) (hr2 : Reads w B2 1 A2 m (bvs l2)) {x : Int} (hx : Lib.compareBytes l l2 = x) :
    Calls Try.prog 45 #[.slice A n c, .slice A2 m c2] w fun e w' => e = .returned (.int .i64 x) ∧ w' = w := by subst hx; exact Compare_any A A2 n c m c2 B B2 l l2 w hr hr2
set_option maxRecDepth 100000 in
set_option maxHeartbeats 1000000 in
theorem Devices_any (A : Option Addr) (c : Nat) (hs : List (List UInt8)) (w : World) (hh : Hsh w w.heap.size A hs) (hn : hs.length ≤ 140737488355328) :
    Calls Try.prog 18 #[.slice A hs.length c] w (DevPost hs w) := by
  go_enter Try.func18, Try.ntmps18
  go_wp2
  go_loopw [6] (fun i wr => ∃ k : Nat, k ≤ hs.length ∧ i = .int .i64 k ∧ Hid (ascP hs k) ∧ ∃ q, wr = w.drewN q) (fun i _ => hs.length - (intOf i).toNat)
  case atStart => exact ⟨0, Nat.zero_le _, rfl, fun i _ h => by omega, 0, rfl⟩
  case round =>
    obtain ⟨k, hk, rfl, hasc, q, rfl⟩ := hrel
    by_cases hlt : k < hs.length
    · have hlt' : (k : Int) < (hs.length : Int) := by omega
      by_cases h0 : (0 : Int) < (k : Int)
      · obtain ⟨b, off, rfl, hb, hall⟩ := hh.at_ hlt
        obtain ⟨k0, hk0⟩ : ∃ k0, k0 + 1 = k := ⟨k - 1, by omega⟩
        have hk1 : k0 < hs.length := by omega
        obtain ⟨l, hl, hl32, _, hrl⟩ := hall k0 hk1
        obtain ⟨m, hm, hm32, _, hrm⟩ := hall k hlt
        have Hk0 := Lib.hid hk0
        have hc := Lib.hid (compare_below l m (by omega))
        obtain ⟨x, hx⟩ : ∃ x, Lib.compareBytes l m = x := ⟨_, rfl⟩
        rw [hx] at hc
        have HX := Lib.hid hx
        have hsub : IntKind.i64.wrap ((k : Int) - 1) = (k0 : Int) := by rw [IntWalk.i64_in _ (by omega)]; omega
        have h0n : decide (0 < k) = true := by rw [decide_eq_true_iff]; omega
        have hlt0 : (k0 : Int) < (hs.length : Int) := by omega
        clear hall hl32 hm32 hx hk0
        by_cases hb1 : belowB l m = true
        · have hge : decide (0 ≤ x) = false := by rw [hc.out, hb1]; rfl
          have Hb1 := Lib.hid hb1
          clear hb1
          go_wp2
          go_quiet ((go_at_call 45; exact (Compare_at (hrl.drewN _) (hrm.drewN _) HX.out).mono fun e w2 h => ⟨h.1, _, h.2⟩))
          go_wp2
          go_roundw
          case rel => exact ⟨k + 1, by omega, by go_num, (by have e := Hk0.out; subst e; exact ascP_succ hasc.out hlt hl.out hm.out Hb1.out), _, rfl⟩
          case measure => simp [intOf]; omega
        · have hge : decide (0 ≤ x) = true := by rw [hc.out]; simpa using hb1
          have Hb1 := Lib.hid (by simpa using hb1 : belowB l m = false)
          clear hb1
          go_wp2
          go_quiet ((go_at_call 45; exact (Compare_at (hrl.drewN _) (hrm.drewN _) HX.out).mono fun e w2 h => ⟨h.1, _, h.2⟩))
          go_wp2
          go_ret
          exact DevPost.no (by have e := Hk0.out; subst e; exact ascP_no hlt hl.out hm.out Hb1.out) (below_drewN (below_drewN (Below.refl _ _) _) _)
      · have h0' : decide ((0 : Int) < (k : Int)) = false := by simpa using h0
        obtain rfl : k = 0 := by omega
        go_wp2
        go_quiet (fail)
        go_wp2
        go_roundw
        case rel => exact ⟨1, by omega, by go_num, fun i _ h => by omega, _, rfl⟩
        case measure => simp [intOf]; omega
    · obtain rfl : k = hs.length := by omega
      go_wp2
      go_ret
      exact ⟨_, rfl, by rw [decide_eq_true_iff]; exact ⟨fun h => ⟨hasc.out, by omega⟩, fun h => by have := h.2; omega⟩, below_drewN (Below.refl _ _) _⟩
end Go.Proofs.Ytbpgbihcihnieaa
