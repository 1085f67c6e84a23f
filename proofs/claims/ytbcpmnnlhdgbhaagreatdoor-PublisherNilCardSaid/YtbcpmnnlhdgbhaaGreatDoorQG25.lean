/- The texts W1 W2 Bits W6 W7 W8 W3 W4 W5 of this work, merged by wip/merge.py. No conditions. -/
import Derived.Test.YtbcpmnnlhdgbhaaGreatDoorQG00
import Derived.Deep.DeepMust
import Derived.Test.YtbcpmnnlhdgbhaaGreatDoorQG01
import Derived.WalkKit
import Derived.Deep.QuietTactic
import Derived.BigQuiet
import Derived.Lib.SliceRun
import Derived.Deep.LoopGhost
import Derived.Lib.SlBytesConst
namespace Go.Proofs.YtbcpmnnlhdgbhaaGreatDoor
open Go.RowKit

set_option maxRecDepth 100000 in
set_option maxHeartbeats 400000 in
theorem four_any (base : Nat) (v : Value) (l : List UInt8) (m : Nat) (hm : m < 4294967296) (w : World) (hown : Own8 w base v l) (hn : l.length + 4 ≤ 140737488355328) (hb : base ≤ w.heap.size) :
    Calls Tryz.prog 58 #[v, .int .i64 (m : Int)] w fun e w' => ∃ v', e = .returned v' ∧ Own8 w' base v' (l ++ be4 m) ∧ w.grownBy w' v.ownBlock := by
  have hc := be4_cells m hm
  have H := Lib.hid hc; clear hc
  go_enter Tryz.func58, Tryz.ntmps58
  go_wp2_with (at_builtin; go_must (refine app8 rfl rfl rfl rfl (hown.alloc _) (news := be4 m) (by rw [H.out]; exact reads_new _ _ _ _ rfl) (by omega) (by simp; omega) ?_); intro v1 w1 hown1 hg1 hb1)
  go_ret
  refine ⟨_, rfl, hown1, ?_⟩
  exact (World.grownBy_alloc w _ _).trans hg1

def EncPost (ls : List (List UInt8)) (w : World) (e : Ending) (w' : World) : Prop :=
  ∃ v, e = .returned (.tuple #[v, .int .i64 (encE ls)]) ∧ Own8 w' w.heap.size v (encB ls) ∧ Below w.heap.size w w'

theorem EncPost.no {ls : List (List UInt8)} {w w' : World} (h : encOK ls = false) (hb : Below w.heap.size w w') : EncPost ls w (.returned (.tuple #[.slice none 0 0, .int .i64 6])) w' :=
  ⟨_, by rw [encE_no h], by rw [encB_no h]; exact own8_nil _ _, hb⟩
theorem EncPost.yes {ls : List (List UInt8)} {w w' : World} {v : Value} (h : encOK ls = true) (ho : Own8 w' w.heap.size v (be4 ls.length ++ members ls)) (hb : Below w.heap.size w w') : EncPost ls w (.returned (.tuple #[v, .int .i64 0])) w' :=
  ⟨_, by rw [encE_ok h], by rw [encB_ok h]; exact ho, hb⟩

set_option maxRecDepth 100000 in
set_option maxHeartbeats 1000000 in
theorem Encode_any (A : Option Addr) (c : Nat) (ls : List (List UInt8)) (w : World) (hl : Lists w w.heap.size A ls) (hn : ls.length ≤ 140737488355328) :
    Calls Tryz.prog 28 #[.slice A ls.length c] w (EncPost ls w) := by
  by_cases h1 : 65536 < ls.length
  · go_enter Tryz.func28, Tryz.ntmps28
    go_wp2
    go_ret2
    exact EncPost.no (encOK_no1 h1) (Below.refl _ _)
  · go_enter Tryz.func28, Tryz.ntmps28
    go_wp2
    go_loop [4, 15] (fun s i => ∃ k : Nat, k ≤ ls.length ∧ i = .int .i64 k ∧ s = .int .i64 ((4 + bulk (ls.take k) : Nat) : Int) ∧ ((4 + bulk (ls.take k) : Nat) : Int) ≤ 1048576) (fun _ i => ls.length - (intOf i).toNat)
    case atStart => exact ⟨0, Nat.zero_le _, rfl, rfl, by simp [bulk]⟩
    case round =>
      obtain ⟨k, hk, rfl, rfl, hs⟩ := hrel
      by_cases hlt : k < ls.length
      · obtain ⟨l, b, off, A', c', hlk, rfl, hb, hcell, hc', hr⟩ := hl.at_ k hlt
        have hts := Lib.hid (bulk_take_succ ls k hlt)
        have hle := Lib.hid (bulk_take_le ls (k + 1))
        obtain ⟨z, hz⟩ : ∃ z, z = 4 + bulk (ls.take k) := ⟨_, rfl⟩
        rw [← hz] at hs ⊢
        have Hz := Lib.hid hz; clear hz
        by_cases hov : 1048576 - ((z : Int) + 4) < (l.length : Int)
        · go_wp2
          go_ret2
          exact EncPost.no (encOK_no2 (by have := hts.out; have := hle.out; have := Hz.out; rw [hlk.out] at *; omega)) (Below.refl _ _)
        · go_wp2
          go_round
          case rel => exact ⟨k + 1, by omega, by go_num, by rw [hts.out, hlk.out]; have := Hz.out; go_num, by rw [hts.out, hlk.out]; have := Hz.out; omega⟩
          case measure => simp [intOf]; omega
      · obtain rfl : k = ls.length := by omega
        rw [List.take_length] at hs ⊢
        have hE := Lib.hid (encOK_of (l := ls) (by omega) (by omega))
        go_wp2_with (first
          | (at_make; refine make8 rfl rfl rfl rfl (n := 4 + bulk ls) (by simp) (by omega) (Nat.le_refl _) ?_; intro w1 hown1 hg1; have hb1 := below_none (Below.refl _ _) hg1)
          | (go_at_call 58; refine (four_any w.heap.size _ [] ls.length (by omega) _ hown1 (by simp) hb1.size).mono ?_; rintro e w2 ⟨v2, rfl, hown2, hg2⟩; have hb2 := below_own8 hb1 hown1 hg2; clear hg1 hown1 hg2))
        go_loopw [7, 38] (fun v i wr => ∃ k : Nat, k ≤ ls.length ∧ i = .int .i64 k ∧ Own8 wr w.heap.size v (be4 ls.length ++ members (ls.take k)) ∧ Below w.heap.size w wr) (fun _ i _ => ls.length - (intOf i).toNat)
        case atStart => exact ⟨0, Nat.zero_le _, rfl, by simpa [members] using hown2, hb2⟩
        case round =>
          obtain ⟨k, hk, rfl, hown, hbw⟩ := hrel
          by_cases hlt : k < ls.length
          · obtain ⟨l, b, off, A', c', hlk, rfl, hb, hcell, hc', hr⟩ := hl.at_b hbw k hlt
            have hts := Lib.hid (members_take_succ ls k hlt)
            have hle := bulk_take_le ls (k + 1)
            have hbs := bulk_take_succ ls k hlt
            have hml : (be4 ls.length ++ members (ls.take k)).length = 4 + bulk (ls.take k) := by rw [List.length_append, be4_length, members_length]
            rw [hlk.out] at hbs
            have hsz : (be4 ls.length ++ members (ls.take k)).length + 4 + l.length ≤ 1048576 := by omega
            have Hsz := Lib.hid hsz
            clear hle hbs hml hsz hs
            go_wp2_with (first
              | (go_at_call 58; refine (four_any w.heap.size _ _ l.length (by have := Hsz.out; omega) _ hown (by have := Hsz.out; omega) hbw.size).mono ?_; rintro e w3 ⟨v3, rfl, hown3, hg3⟩; have hb3 := below_own8 hbw hown hg3; clear hg3)
              | (at_builtin; go_must (refine app8 rfl rfl rfl rfl hown3 (hr.below hb3) (by have := Hsz.out; rw [List.length_append, be4_length]; omega) hb3.size ?_); intro v4 w4 hown4 hg4 hx4; have hb4 := below_own8 hb3 hown3 hg4))
            go_roundw
            case rel => exact ⟨k + 1, by omega, by go_num, by rw [hts.out, hlk.out]; simpa using hown4, hb4⟩
            case measure => simp [intOf]; omega
          · obtain rfl : k = ls.length := by omega
            go_wp2
            go_ret2
            exact EncPost.yes hE.out (by simpa using hown) hbw
end Go.Proofs.YtbcpmnnlhdgbhaaGreatDoor

namespace Go.Proofs.YtbcpmnnlhdgbhaaGreatDoor
open Go.RowKit

theorem own8_new (w : World) (base : Nat) (hb : base ≤ w.heap.size) (l : List UInt8) (n : Nat) (hn : l.length = n) (hm : n ≤ maxLen) : Own8 (w.alloc (.cells (bvs l).toArray 5)) base (.slice (some ⟨w.heap.size, 0, none⟩) n n) l := by
  subst hn
  refine ⟨by simp [bvs_length], .inr ⟨w.heap.size, l.length, (bvs l).toArray, rfl, hb, heap_alloc_new w _, Nat.le_refl _, hm, by simp [bvs_length], ?_⟩⟩
  simp only [Nat.mul_one]
  rw [List.take_of_length_le (by simp [bvs_length])]

theorem Own8.reads {w : World} {base n c : Nat} {A : Option Addr} {l : List UInt8} (h : Own8 w base (.slice A n c) l) : Reads w w.heap.size 1 A n (bvs l) := by
  obtain ⟨A', c', h1, _, h2⟩ := own8_form h
  cases h1
  exact h2

end Go.Proofs.YtbcpmnnlhdgbhaaGreatDoor

namespace Go.Proofs.YtbcpmnnlhdgbhaaGreatDoor
theorem ofInt_i64 (a : Nat) (ha : a < 9223372036854775808) : (BitVec.ofInt 64 (a : Int)).toNat = a := by
  rw [BitVec.ofInt_natCast, BitVec.toNat_ofNat]; exact Nat.mod_eq_of_lt (by omega)
theorem i64_or_nat (a b : Nat) (ha : a < 9223372036854775808) (hb : b < 9223372036854775808) : bits .or .i64 (a : Int) (b : Int) = ((a ||| b : Nat) : Int) := by
  have hx : a ||| b < 2 ^ 63 := Nat.or_lt_two_pow (by omega) (by omega)
  show IntKind.i64.wrap ((BitVec.ofInt 64 (a : Int) ||| BitVec.ofInt 64 (b : Int)).toNat : Int) = _
  rw [BitVec.toNat_or, ofInt_i64 a ha, ofInt_i64 b hb, IntKind.wrap_i64]
  omega
theorem or_add (x b k : Nat) (hb : b < 2 ^ k) : (x * 2 ^ k) ||| b = x * 2 ^ k + b := by
  rw [Nat.mul_comm, ← Nat.two_pow_add_eq_or_of_lt hb]
theorem or_four (a b c d : Nat) (ha : a < 256) (hb : b < 256) (hc : c < 256) (hd : d < 256) :
    bits .or .i64 (bits .or .i64 (bits .or .i64 ((a : Int) * 16777216) ((b : Int) * 65536)) ((c : Int) * 256)) (d : Int) = ((a * 16777216 + b * 65536 + c * 256 + d : Nat) : Int) := by
  have e1 : bits .or .i64 ((a : Int) * 16777216) ((b : Int) * 65536) = ((a * 16777216 + b * 65536 : Nat) : Int) := by
    have := i64_or_nat (a * 16777216) (b * 65536) (by omega) (by omega)
    rw [show a * 16777216 ||| b * 65536 = a * 16777216 + b * 65536 from or_add a (b * 65536) 24 (by omega)] at this
    rw [← this]; simp
  have e2 : bits .or .i64 ((a * 16777216 + b * 65536 : Nat) : Int) ((c : Int) * 256) = ((a * 16777216 + b * 65536 + c * 256 : Nat) : Int) := by
    have := i64_or_nat (a * 16777216 + b * 65536) (c * 256) (by omega) (by omega)
    rw [show (a * 16777216 + b * 65536) ||| c * 256 = a * 16777216 + b * 65536 + c * 256 from by
      have := or_add (a * 256 + b) (c * 256) 16 (by omega)
      rw [show (a * 256 + b) * 2 ^ 16 = a * 16777216 + b * 65536 from by omega] at this
      exact this] at this
    rw [← this]; simp
  have e3 : bits .or .i64 ((a * 16777216 + b * 65536 + c * 256 : Nat) : Int) (d : Int) = ((a * 16777216 + b * 65536 + c * 256 + d : Nat) : Int) := by
    have := i64_or_nat (a * 16777216 + b * 65536 + c * 256) d (by omega) (by omega)
    rw [show (a * 16777216 + b * 65536 + c * 256) ||| d = a * 16777216 + b * 65536 + c * 256 + d from by
      have := or_add (a * 65536 + b * 256 + c) d 8 (by omega)
      rw [show (a * 65536 + b * 256 + c) * 2 ^ 8 = a * 16777216 + b * 65536 + c * 256 from by omega] at this
      exact this] at this
    exact this
  rw [e1, e2, e3]
theorem ofInt_u64 (a : Nat) (ha : a < 18446744073709551616) : (BitVec.ofInt 64 (a : Int)).toNat = a := by
  rw [BitVec.ofInt_natCast, BitVec.toNat_ofNat]; exact Nat.mod_eq_of_lt (by omega)
theorem u64_or_nat (a b : Nat) (ha : a < 18446744073709551616) (hb : b < 18446744073709551616) : bits .or .u64 (a : Int) (b : Int) = ((a ||| b : Nat) : Int) := by
  have hx : a ||| b < 2 ^ 64 := Nat.or_lt_two_pow (by omega) (by omega)
  show IntKind.u64.wrap ((BitVec.ofInt 64 (a : Int) ||| BitVec.ofInt 64 (b : Int)).toNat : Int) = _
  rw [BitVec.toNat_or, ofInt_u64 a ha, ofInt_u64 b hb]
  have : IntKind.u64.wrap ((a ||| b : Nat) : Int) = (((a ||| b : Nat) : Int)) % 18446744073709551616 := by
    simp [IntKind.wrap, IntKind.signed, IntKind.bits]
  rw [this]; omega
theorem or_u32 (a b : Nat) (ha : a < 4294967296) (hb : b < 4294967296) : bits .or .u64 ((a : Int) * 4294967296) (b : Int) = ((a * 4294967296 + b : Nat) : Int) := by
  have := u64_or_nat (a * 4294967296) b (by omega) (by omega)
  rw [show a * 4294967296 ||| b = a * 4294967296 + b from or_add a b 32 (by omega)] at this
  rw [← this]; simp
end Go.Proofs.YtbcpmnnlhdgbhaaGreatDoor

namespace Go.Proofs.YtbcpmnnlhdgbhaaGreatDoor
open Go.RowKit

/-- A number of 4 bytes off b. -/
def CutPost (l : List UInt8) (B : Nat) (w : World) (e : Ending) (w' : World) : Prop :=
  (∃ n, w' = w.drewN n) ∧ (if l.length < 4 then e = .returned (.tuple #[.int .i64 (-1), .slice none 0 0]) else
    ∃ A c, e = .returned (.tuple #[.int .i64 (num4 l), .slice A (l.length - 4) c]) ∧ l.length - 4 ≤ c ∧ Reads w B 1 A (l.length - 4) (bvs (l.drop 4)))

theorem CutPost.mk {l : List UInt8} {B n c q : Nat} {w : World} {A : Option Addr} {v : Int} (h4 : 4 ≤ (l.length : Int)) (Ha : Hid (num4 l = n)) (hv : v = (n : Int)) (hc : l.length - 4 ≤ c)
    (hr : Reads w B 1 A (l.length - 4) (bvs l |>.drop (4 * 1))) : CutPost l B w (.returned (.tuple #[.int .i64 v, .slice A (l.length - 4) c])) (w.drewN q) := by
  refine ⟨⟨q, rfl⟩, ?_⟩
  rw [if_neg (by omega)]
  refine ⟨A, c, ?_, hc, ?_⟩
  · rw [hv, ← Ha.out]
  · simpa [bvs, List.map_drop] using hr
set_option maxRecDepth 100000 in
set_option maxHeartbeats 1000000 in
theorem cut_any (A : Option Addr) (c B : Nat) (l : List UInt8) (w : World) (hr : Reads w B 1 A l.length (bvs l)) (hc : l.length ≤ c) (hm : l.length ≤ 140737488355328) :
    Calls Tryz.prog 84 #[.slice A l.length c] w (CutPost l B w) := by
  by_cases h4 : (l.length : Int) < 4
  · go_enter Tryz.func84, Tryz.ntmps84
    go_wp2
    go_ret2
    exact ⟨⟨0, rfl⟩, by rw [if_pos (by omega)]; rfl⟩
  · obtain ⟨b, off, rfl, hb, hcell⟩ := hr.bytes (by omega)
    have hcut := hr.cut (k := 4) (cap := c) (by omega) hc
    obtain ⟨a0, ha0⟩ : ∃ x, x = l.getD 0 0 := ⟨_, rfl⟩
    obtain ⟨a1, ha1⟩ : ∃ x, x = l.getD 1 0 := ⟨_, rfl⟩
    obtain ⟨a2, ha2⟩ : ∃ x, x = l.getD 2 0 := ⟨_, rfl⟩
    obtain ⟨a3, ha3⟩ : ∃ x, x = l.getD 3 0 := ⟨_, rfl⟩
    have hc0 := hcell 0 (by omega)
    have hc1 := hcell 1 (by omega)
    have hc2 := hcell 2 (by omega)
    have hc3 := hcell 3 (by omega)
    rw [← ha0] at hc0
    rw [← ha1] at hc1
    rw [← ha2] at hc2
    rw [← ha3] at hc3
    have Ha := Lib.hid (show num4 l = a0.toNat * 16777216 + a1.toNat * 65536 + a2.toNat * 256 + a3.toNat by rw [ha0, ha1, ha2, ha3]; rfl)
    clear ha0 ha1 ha2 ha3 hcell
    have p0 : (a0.toNat : Int) < 256 := by have := a0.toNat_lt; omega
    have p1 : (a1.toNat : Int) < 256 := by have := a1.toNat_lt; omega
    have p2 : (a2.toNat : Int) < 256 := by have := a2.toNat_lt; omega
    have p3 : (a3.toNat : Int) < 256 := by have := a3.toNat_lt; omega
    have q0 : (0 : Int) < (l.length : Int) := by omega
    have q1 : (1 : Int) < (l.length : Int) := by omega
    have q2 : (2 : Int) < (l.length : Int) := by omega
    have q3 : (3 : Int) < (l.length : Int) := by omega
    have q4 : (4 : Int) ≤ (l.length : Int) := by omega
    simp only [Nat.add_zero] at hc0
    go_enter Tryz.func84, Tryz.ntmps84
    go_wp2
    go_quiet (fail)
    go_wp2
    · have h : c = 4 := by assumption
      go_ret2
      exact CutPost.mk h4 Ha (or_four _ _ _ _ (by omega) (by omega) (by omega) (by omega)) (by omega) (by rw [if_pos h] at hcut; exact hcut)
    · have h : ¬ c = 4 := by assumption
      go_ret2
      exact CutPost.mk h4 Ha (or_four _ _ _ _ (by omega) (by omega) (by omega) (by omega)) (by omega) (by rw [if_neg h] at hcut; simpa [add_none] using hcut)

theorem cut_any' (A : Option Addr) (n c B : Nat) (l : List UInt8) (w : World) (hn : l.length = n) (hr : Reads w B 1 A n (bvs l)) (hc : n ≤ c) (hm : n ≤ 140737488355328) :
    Calls Tryz.prog 84 #[.slice A n c] w (CutPost l B w) := by
  subst hn; exact cut_any A c B l w hr hc hm
/-- 8 bytes, or none. -/
def numE (l : List UInt8) : Int := if l.length = 8 then 0 else 2
def numV (l : List UInt8) : Nat := if l.length = 8 then num4 l * 4294967296 + num4 (l.drop 4) else 0
def ReadNumPost (l : List UInt8) (w : World) (e : Ending) (w' : World) : Prop := e = .returned (.tuple #[.int .u64 (numV l), .int .i64 (numE l)]) ∧ ∃ n, w' = w.drewN n
theorem ReadNumPost.no {l : List UInt8} {w : World} {q : Nat} (h : ¬ l.length = 8) : ReadNumPost l w (.returned (.tuple #[.int .u64 0, .int .i64 2])) (w.drewN q) := ⟨by simp [numV, numE, h], q, rfl⟩
theorem ReadNumPost.yes {l : List UInt8} {w : World} {q : Nat} {n : Int} (h : l.length = 8) (hn : n = ((num4 l * 4294967296 + num4 (l.drop 4) : Nat) : Int)) : ReadNumPost l w (.returned (.tuple #[.int .u64 n, .int .i64 0])) (w.drewN q) := ⟨by rw [hn]; simp [numV, numE, h], q, rfl⟩
theorem CutPost.yes {l : List UInt8} {B : Nat} {w w' : World} {e : Ending} (h : CutPost l B w e w') (hl : 4 ≤ l.length) :
    ∃ A c n, w' = w.drewN n ∧ e = .returned (.tuple #[.int .i64 (num4 l), .slice A (l.length - 4) c]) ∧ l.length - 4 ≤ c ∧ Reads w B 1 A (l.length - 4) (bvs (l.drop 4)) := by
  obtain ⟨⟨n, rfl⟩, h⟩ := h
  rw [if_neg (by omega)] at h
  obtain ⟨A, c, h1, h2, h3⟩ := h
  exact ⟨A, c, n, rfl, h1, h2, h3⟩
theorem CutPost.no {l : List UInt8} {B : Nat} {w w' : World} {e : Ending} (h : CutPost l B w e w') (hl : l.length < 4) :
    ∃ n, w' = w.drewN n ∧ e = .returned (.tuple #[.int .i64 (-1), .slice none 0 0]) := by
  obtain ⟨⟨n, rfl⟩, h⟩ := h
  rw [if_pos hl] at h
  exact ⟨n, rfl, h⟩

set_option maxRecDepth 100000 in
set_option maxHeartbeats 1000000 in
theorem ReadNum_any (A : Option Addr) (c B : Nat) (l : List UInt8) (w : World) (hr : Reads w B 1 A l.length (bvs l)) (hc : l.length ≤ c) (hm : l.length ≤ 140737488355328) :
    Calls Tryz.prog 46 #[.slice A l.length c] w (ReadNumPost l w) := by
  by_cases h8 : l.length = 8
  · have hb8 : ((l.length : Int) == 8) = true := by simp [h8]
    have hlt := num4_lt l
    have hlt2 := num4_lt (l.drop 4)
    have H8 := Lib.hid h8
    have g8 : 8 ≤ l.length := by omega
    have g8' : l.length ≤ 8 := by omega
    clear h8
    go_enter Tryz.func46, Tryz.ntmps46
    have tok1 : True := trivial
    go_wp2_with (first
      | (go_at_call 84; have _t := tok1; go_must (refine (cut_any A c B l _ hr hc hm).mono ?_; intro e w1 hp; obtain ⟨A1, c1, n1, rfl, rfl, hc1, hr1⟩ := hp.yes (by omega); clear tok1 hp))
      | (go_at_call 84; go_must (refine (cut_any' A1 (l.length - 4) c1 B (l.drop 4) _ (by simp) (hr1.drewN _) hc1 (by simp; omega)).mono ?_; intro e w2 hp; obtain ⟨A2, c2, n2, rfl, rfl, hc2, hr2⟩ := hp.yes (by simp; omega); clear hp)))
    go_ret2
    exact ReadNumPost.yes H8.out (or_u32 _ _ hlt hlt2)
  · have hb8 : ((l.length : Int) == 8) = false := by simp; omega
    have H8 := Lib.hid h8
    clear h8
    go_enter Tryz.func46, Tryz.ntmps46
    go_wp2
    go_ret2
    exact ReadNumPost.no (q := 0) H8.out
theorem four_any' (base : Nat) (v : Value) (l : List UInt8) (x : Int) (m : Nat) (hx : x = (m : Int)) (hm : m < 4294967296) (w : World) (hown : Own8 w base v l) (hn : l.length + 4 ≤ 140737488355328) (hb : base ≤ w.heap.size) :
    Calls Tryz.prog 58 #[v, .int .i64 x] w fun e w' => ∃ v', e = .returned v' ∧ Own8 w' base v' (l ++ be4 m) ∧ w.grownBy w' v.ownBlock := by
  subst hx; exact four_any base v l m hm w hown hn hb
def be8 (n : Nat) : List UInt8 := be4 (n / 4294967296) ++ be4 (n % 4294967296)
theorem be8_length (n : Nat) : (be8 n).length = 8 := rfl
set_option maxRecDepth 100000 in
set_option maxHeartbeats 1000000 in
theorem Num_any (n : Nat) (hn : n < 18446744073709551616) (w : World) :
    Calls Tryz.prog 29 #[.int .u64 (n : Int)] w fun e w' => ∃ v, e = .returned v ∧ Own8 w' w.heap.size v (be8 n) ∧ Below w.heap.size w w' := by
  have Hn := Lib.hid hn
  have hn' : (n : Int) ≤ 18446744073709551615 := by omega
  clear hn
  go_enter Tryz.func29, Tryz.ntmps29
  have tok1 : True := trivial
  go_wp2_with (first
    | (go_at_call 58; have _t := tok1; go_must (refine (four_any' w.heap.size _ [] _ (n / 4294967296) (by omega) (by have := Hn.out; omega) _ (own8_nil _ _) (by simp) (Nat.le_refl _)).mono ?_; rintro e w1 ⟨v1, rfl, hown1, hg1⟩; have hb1 := below_own8 (Below.refl _ _) (own8_nil _ _) hg1; clear tok1))
    | (go_at_call 58; go_must (refine (four_any' w.heap.size _ _ _ (n % 4294967296) (by omega) (by omega) _ hown1 (by rw [List.length_append, be4_length]; simp) hb1.size).mono ?_; rintro e w2 ⟨v2, rfl, hown2, hg2⟩; have hb2 := below_own8 hb1 hown1 hg2)))
  go_ret
  exact ⟨_, rfl, hown2, hb2⟩

end Go.Proofs.YtbcpmnnlhdgbhaaGreatDoor

namespace Go.Proofs.YtbcpmnnlhdgbhaaGreatDoor
open Go.RowKit

def ClonePost (l : List UInt8) (w : World) (e : Ending) (w' : World) : Prop := ∃ v, e = .returned v ∧ Own8 w' w.heap.size v l ∧ Below w.heap.size w w'
set_option maxRecDepth 100000 in
set_option maxHeartbeats 1000000 in
theorem Clone_any (A : Option Addr) (n c : Nat) (l : List UInt8) (w : World) (hr : Reads w w.heap.size 1 A n (bvs l)) (hm : n ≤ 140737488355328) :
    Calls Tryz.prog 93 #[.slice A n c] w (ClonePost l w) := by
  have heq := fun (w : World) => Lib.run_eql_slice_nil (P := Tryz.prog) w 96 5 A n c 0 0 Tryz.underlying96
  cases A with
  | none =>
    have hl : l = [] := by
      have h1 := hr.1
      rw [bvs_length] at h1
      cases l with
      | nil => rfl
      | cons a l => obtain ⟨_, h, _⟩ := hr.2 (by simp at h1; omega); cases h
    subst hl
    go_enter Tryz.func93, Tryz.ntmps93
    go_wp2
    go_ret
    exact ⟨_, rfl, own8_nil _ _, Below.refl _ _⟩
  | some ad =>
    go_enter Tryz.func93, Tryz.ntmps93
    go_wp2_with (at_builtin; go_must (refine app8 rfl rfl rfl rfl (own8_zero w w.heap.size (Nat.le_refl _)) (hr.alloc (Nat.le_refl _) _) (by simp; omega) (by simp) ?_; intro v1 w1 hown1 hg1 hx1; have hb1 : Below w.heap.size w w1 := below_own8 ((Below.refl _ _).alloc (Nat.le_refl _) _) (own8_zero w w.heap.size (Nat.le_refl _)) hg1; simp only [List.nil_append] at hown1))
    go_ret
    exact ⟨_, rfl, hown1, hb1⟩
def DecPost (l : List UInt8) (w : World) (e : Ending) (w' : World) : Prop := ∃ v, e = .returned (.tuple #[v, .int .i64 (decE l)]) ∧ OwnL w' w.heap.size v (decV l) ∧ Below w.heap.size w w'
theorem DecPost.no {l : List UInt8} {w w' : World} {x : Int} (h : decV l = [] ∧ decE l = x) (hb : Below w.heap.size w w') : DecPost l w (.returned (.tuple #[.slice none 0 0, .int .i64 x])) w' :=
  ⟨_, by rw [h.2], by rw [h.1]; exact OwnL.nil _ _, hb⟩
theorem DecPost.ok {l : List UInt8} {w w' : World} {v : Value} {ls : List (List UInt8)} (h : decV l = ls ∧ decE l = 0) (ho : OwnL w' w.heap.size v ls) (hb : Below w.heap.size w w') : DecPost l w (.returned (.tuple #[v, .int .i64 0])) w' :=
  ⟨_, by rw [h.2], by rw [h.1]; exact ho, hb⟩
theorem below_drewN {B : Nat} {a w : World} (h : Below B a w) (n : Nat) : Below B a (w.drewN n) := ⟨h.os, h.tape, h.output, h.size, h.block⟩
theorem OwnL.drewN {w : World} {base : Nat} {v : Value} {ls : List (List UInt8)} (h : OwnL w base v ls) (n : Nat) : OwnL (w.drewN n) base v ls := h.below (below_drewN (Below.refl _ _) n)

end Go.Proofs.YtbcpmnnlhdgbhaaGreatDoor

namespace Go.Proofs.YtbcpmnnlhdgbhaaGreatDoor
open Go.RowKit

def numberV (l : List UInt8) (p : Nat) : Int := if l.length < p + 4 then -1 else (num4 (l.drop p) : Int)
def NumberPost (l : List UInt8) (p : Nat) (w : World) (e : Ending) (w' : World) : Prop := e = .returned (.int .i64 (numberV l p)) ∧ ∃ n, w' = w.drewN n
theorem NumberPost.no {l : List UInt8} {p q : Nat} {w : World} (h : (l.length : Int) - 4 < (p : Int)) : NumberPost l p w (.returned (.int .i64 (-1))) (w.drewN q) := ⟨by rw [numberV, if_pos (by omega)], q, rfl⟩
theorem NumberPost.yes {l : List UInt8} {p q n : Nat} {w : World} {v : Int} (h : (p : Int) ≤ (l.length : Int) - 4) (hn : Hid (num4 (l.drop p) = n)) (hv : v = (n : Int)) : NumberPost l p w (.returned (.int .i64 v)) (w.drewN q) :=
  ⟨by rw [numberV, if_neg (by omega), hv, hn.out], q, rfl⟩

end Go.Proofs.YtbcpmnnlhdgbhaaGreatDoor

namespace Go.Proofs.YtbcpmnnlhdgbhaaGreatDoor
open Go.RowKit

end Go.Proofs.YtbcpmnnlhdgbhaaGreatDoor

namespace Go.Proofs.YtbcpmnnlhdgbhaaGreatDoor
open Go.RowKit

def AccPost (s : ByteArray) (w : World) (e : Ending) (w' : World) : Prop := e = .returned (.bool (accOK s.data.toList)) ∧ Below w.heap.size w w'
theorem AccPost.mk {s : ByteArray} {w w' : World} {b : Bool} (hb : Below w.heap.size w w') (h : accOK s.data.toList = b) : AccPost s w (.returned (.bool b)) w' := ⟨by rw [h], hb⟩

theorem decide_ok (s : ByteArray) (k : Nat) (h : k < s.size) : (okR (Utf8.decode s k).1 → (Utf8.decode s k).2 = 1 ∧ accB s[k] = true) ∧ (¬ okR (Utf8.decode s k).1 → accB s[k] = false) := by
  by_cases ha : (s[k]'h).toNat < 128
  · rw [decode_ascii s k h ha]
    exact ⟨fun h1 => ⟨rfl, accB_yes h1⟩, fun h1 => accB_no h1⟩
  · have hd := decode_high s k h (by omega)
    exact ⟨fun h1 => by have := okR_lt h1; omega, fun _ => accB_no fun h1 => by have := okR_lt h1; omega⟩

theorem acc_nil (s : ByteArray) (h : s.toList = []) : (decide (1 ≤ s.data.toList.length) && decide (s.data.toList.length ≤ 32)) = false := by
  rw [ByteArray.toList_eq] at h; simp [h]
theorem acc_val (s : ByteArray) : (decide (1 ≤ s.data.toList.length) && decide (s.data.toList.length ≤ 32)) = (!s.toList.isEmpty && decide ((s.size : Int) ≤ 32)) := by
  have h2 : s.size = s.data.toList.length := Array.length_toList.symm
  rw [ByteArray.toList_eq, h2]
  cases s.data.toList with
  | nil => rfl
  | cons a l =>
    have h1 : decide (1 ≤ (a :: l).length) = true := by simp
    rw [h1]
    simp only [List.isEmpty_cons, Bool.not_false, Bool.true_and]
    rw [Bool.eq_iff_iff]; simp; omega

set_option maxRecDepth 100000 in
set_option maxHeartbeats 1000000 in
theorem Account_any (s : ByteArray) (w : World) : Calls Tryz.prog 19 #[.string s] w (AccPost s w) := by
  have hsl : s.data.toList.length = s.size := Array.length_toList
  have Hsl := Lib.hid hsl; clear hsl
  go_enter Tryz.func19, Tryz.ntmps19
  go_wp2
  go_loopg [4] s.size (fun n v wr => ∃ k : Nat, k ≤ s.size ∧ n = s.size - k ∧ wr = w.iter s k ∧ ∀ (j : Nat) (h : j < s.data.toList.length), j < k → accB s.data.toList[j] = true)
  case atStart => exact ⟨0, Nat.zero_le _, rfl, rfl, fun j _ h => by omega⟩
  case round =>
    obtain ⟨k, hk, hn, rfl, hall⟩ := hrel
    have Hall := Lib.hid hall; clear hall
    have Hn := Lib.hid hn; clear hn
    by_cases hlt : k < s.size
    · obtain ⟨hyes, hno⟩ := decide_ok s k hlt
      have hnx := fun ty => run_next_any (P := Tryz.prog) w s k ty hlt
      have hx := decode_le s k
      generalize Utf8.decode s k = p at *
      obtain ⟨x, d⟩ := p
      dsimp only at hyes hno hnx hx
      by_cases hok : okR x
      · obtain ⟨rfl, hacc⟩ := hyes hok
        clear hyes hno
        have hok' := hok
        unfold okR at hok'
        clear hok
        rcases hok' with ⟨h1, h2⟩ | ⟨h1, h2⟩ | rfl | rfl | rfl
        all_goals
          go_wp2
          go_roundg (s.size - (k + 1))
          case measure => have := Hn.out; omega
          case rel =>
            refine ⟨k + 1, by omega, rfl, rfl, fun j hj hjk => ?_⟩
            by_cases hjk' : j = k
            · subst hjk'; exact hacc
            · exact Hall.out j hj (by omega)
      · have hacc := hno hok
        clear hyes hno
        unfold okR at hok
        go_wp2
        all_goals
          go_ret
          exact AccPost.mk ((Below.refl _ _).alloc (Nat.le_refl _) _) (accOK_no (k := k) (by have := Hsl.out; omega) hacc)
    · have hnx := fun ty => run_next_end (P := Tryz.prog) w s k ty hlt
      obtain rfl : k = s.size := by omega
      have hend := Lib.hid (accOK_end (l := s.data.toList) fun k hk => Hall.out k hk (by have := Hsl.out; omega))
      go_wp2
      · have he : s.toList = [] := by assumption
        go_ret
        exact AccPost.mk ((Below.refl _ _).alloc (Nat.le_refl _) _) (hend.out.trans (acc_nil s he))
      · go_ret
        exact AccPost.mk ((Below.refl _ _).alloc (Nat.le_refl _) _) (hend.out.trans (acc_val s))

end Go.Proofs.YtbcpmnnlhdgbhaaGreatDoor

namespace Go.Proofs.YtbcpmnnlhdgbhaaGreatDoor
open Go.RowKit

end Go.Proofs.YtbcpmnnlhdgbhaaGreatDoor
