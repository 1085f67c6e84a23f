/- The texts W1 W2 W6 of this work, merged by wip/merge.py. No conditions. -/
import Derived.Test.YtbpgbihcihnieaaQBase
import Derived.Deep.DeepMust
import Derived.Deep.QuietTactic
import Derived.BigQuiet
namespace Go.Proofs.Ytbpgbihcihnieaa
open Go.RowKit

set_option maxRecDepth 100000 in
set_option maxHeartbeats 400000 in
theorem four_any (base : Nat) (v : Value) (l : List UInt8) (m : Nat) (hm : m < 4294967296) (w : World) (hown : Own8 w base v l) (hn : l.length + 4 ≤ 140737488355328) (hb : base ≤ w.heap.size) :
    Calls Try.prog 44 #[v, .int .i64 (m : Int)] w fun e w' => ∃ v', e = .returned v' ∧ Own8 w' base v' (l ++ be4 m) ∧ w.grownBy w' v.ownBlock := by
  have hc := be4_cells m hm
  have H := Lib.hid hc; clear hc
  go_enter Try.func44, Try.ntmps44
  go_wp2_with (at_builtin; go_must (refine app8 rfl rfl rfl rfl (hown.alloc _) (news := be4 m) (by rw [H.out]; exact reads_new _ _ _ _ rfl) (by omega) (by simp; omega) ?_); intro v1 w1 hown1 hg1 hb1)
  go_ret
  refine ⟨_, rfl, hown1, ?_⟩
  exact (World.grownBy_alloc w _ _).trans hg1

def EncPost (ls : List (List UInt8)) (w : World) (e : Ending) (w' : World) : Prop :=
  ∃ v, e = .returned (.tuple #[v, .int .i64 (encE ls)]) ∧ Own8 w' w.heap.size v (encB ls) ∧ Below w.heap.size w w'

theorem EncPost.no {ls : List (List UInt8)} {w w' : World} (h : encOK ls = false) (hb : Below w.heap.size w w') : EncPost ls w (.returned (.tuple #[.slice none 0 0, .int .i64 6])) w' :=
  ⟨_, by rw [encE_no h], by rw [encB_no h]; exact own8_nil _ _, hb⟩
theorem EncPost.yes {ls : List (List UInt8)} {w w' : World} {v : Value} (h : encOK ls = true) (ho : Own8 w' w.heap.size v (be4 ls.length ++ members ls)) (hb : Below w.heap.size w w') : EncPost ls w (.returned (.tuple #[v, .int .i64 0])) w' :=
  ⟨_, by rw [encE_ok h], by rw [encB_ok h]; exact ho, hb⟩

set_option maxRecDepth 100000 in
set_option maxHeartbeats 1000000 in
theorem Encode_any (A : Option Addr) (c : Nat) (ls : List (List UInt8)) (w : World) (hl : Lists w w.heap.size A ls) (hn : ls.length ≤ 140737488355328) :
    Calls Try.prog 14 #[.slice A ls.length c] w (EncPost ls w) := by
  by_cases h1 : 65536 < ls.length
  · go_enter Try.func14, Try.ntmps14
    go_wp2
    go_ret2
    exact EncPost.no (encOK_no1 h1) (Below.refl _ _)
  · go_enter Try.func14, Try.ntmps14
    go_wp2
    go_loop [4, 15] (fun s i => ∃ k : Nat, k ≤ ls.length ∧ i = .int .i64 k ∧ s = .int .i64 ((4 + bulk (ls.take k) : Nat) : Int) ∧ ((4 + bulk (ls.take k) : Nat) : Int) ≤ 1048576) (fun _ i => ls.length - (intOf i).toNat)
    case atStart => exact ⟨0, Nat.zero_le _, rfl, rfl, by simp [bulk]⟩
    case round =>
      obtain ⟨k, hk, rfl, rfl, hs⟩ := hrel
      by_cases hlt : k < ls.length
      · obtain ⟨l, b, off, A', c', hlk, rfl, hb, hcell, hc', hr⟩ := hl.at_ k hlt
        have hts := Lib.hid (bulk_take_succ ls k hlt)
        have hle := Lib.hid (bulk_take_le ls (k + 1))
        obtain ⟨z, hz⟩ : ∃ z, z = 4 + bulk (ls.take k) := ⟨_, rfl⟩
        rw [← hz] at hs ⊢
        have Hz := Lib.hid hz; clear hz
        by_cases hov : 1048576 - ((z : Int) + 4) < (l.length : Int)
        · go_wp2
          go_ret2
          exact EncPost.no (encOK_no2 (by have := hts.out; have := hle.out; have := Hz.out; rw [hlk.out] at *; omega)) (Below.refl _ _)
        · go_wp2
          go_round
          case rel => exact ⟨k + 1, by omega, by go_num, by rw [hts.out, hlk.out]; have := Hz.out; go_num, by rw [hts.out, hlk.out]; have := Hz.out; omega⟩
          case measure => simp [intOf]; omega
      · obtain rfl : k = ls.length := by omega
        rw [List.take_length] at hs ⊢
        have hE := Lib.hid (encOK_of (l := ls) (by omega) (by omega))
        go_wp2_with (first
          | (at_make; refine make8 rfl rfl rfl rfl (n := 4 + bulk ls) (by simp) (by omega) (Nat.le_refl _) ?_; intro w1 hown1 hg1; have hb1 := below_none (Below.refl _ _) hg1)
          | (go_at_call 44; refine (four_any w.heap.size _ [] ls.length (by omega) _ hown1 (by simp) hb1.size).mono ?_; rintro e w2 ⟨v2, rfl, hown2, hg2⟩; have hb2 := below_own8 hb1 hown1 hg2; clear hg1 hown1 hg2))
        go_loopw [7, 38] (fun v i wr => ∃ k : Nat, k ≤ ls.length ∧ i = .int .i64 k ∧ Own8 wr w.heap.size v (be4 ls.length ++ members (ls.take k)) ∧ Below w.heap.size w wr) (fun _ i _ => ls.length - (intOf i).toNat)
        case atStart => exact ⟨0, Nat.zero_le _, rfl, by simpa [members] using hown2, hb2⟩
        case round =>
          obtain ⟨k, hk, rfl, hown, hbw⟩ := hrel
          by_cases hlt : k < ls.length
          · obtain ⟨l, b, off, A', c', hlk, rfl, hb, hcell, hc', hr⟩ := hl.at_b hbw k hlt
            have hts := Lib.hid (members_take_succ ls k hlt)
            have hle := bulk_take_le ls (k + 1)
            have hbs := bulk_take_succ ls k hlt
            have hml : (be4 ls.length ++ members (ls.take k)).length = 4 + bulk (ls.take k) := by rw [List.length_append, be4_length, members_length]
            rw [hlk.out] at hbs
            have hsz : (be4 ls.length ++ members (ls.take k)).length + 4 + l.length ≤ 1048576 := by omega
            have Hsz := Lib.hid hsz
            clear hle hbs hml hsz hs
            go_wp2_with (first
              | (go_at_call 44; refine (four_any w.heap.size _ _ l.length (by have := Hsz.out; omega) _ hown (by have := Hsz.out; omega) hbw.size).mono ?_; rintro e w3 ⟨v3, rfl, hown3, hg3⟩; have hb3 := below_own8 hbw hown hg3; clear hg3)
              | (at_builtin; go_must (refine app8 rfl rfl rfl rfl hown3 (hr.below hb3) (by have := Hsz.out; rw [List.length_append, be4_length]; omega) hb3.size ?_); intro v4 w4 hown4 hg4 hx4; have hb4 := below_own8 hb3 hown3 hg4))
            go_roundw
            case rel => exact ⟨k + 1, by omega, by go_num, by rw [hts.out, hlk.out]; simpa using hown4, hb4⟩
            case measure => simp [intOf]; omega
          · obtain rfl : k = ls.length := by omega
            go_wp2
            go_ret2
            exact EncPost.yes hE.out (by simpa using hown) hbw
end Go.Proofs.Ytbpgbihcihnieaa

namespace Go.Proofs.Ytbpgbihcihnieaa
open Go.RowKit

theorem own8_new (w : World) (base : Nat) (hb : base ≤ w.heap.size) (l : List UInt8) (n : Nat) (hn : l.length = n) (hm : n ≤ maxLen) : Own8 (w.alloc (.cells (bvs l).toArray 5)) base (.slice (some ⟨w.heap.size, 0, none⟩) n n) l := by
  subst hn
  refine ⟨by simp [bvs_length], .inr ⟨w.heap.size, l.length, (bvs l).toArray, rfl, hb, heap_alloc_new w _, Nat.le_refl _, hm, by simp [bvs_length], ?_⟩⟩
  simp only [Nat.mul_one]
  rw [List.take_of_length_le (by simp [bvs_length])]

set_option maxRecDepth 100000 in
set_option maxHeartbeats 400000 in
theorem rfour_any (m : Nat) (hm : m < 4294967296) (w : World) :
    Calls Try.prog 43 #[.int .i64 (m : Int)] w fun e w' => ∃ g c, e = .returned (.slice (some ⟨g, 0, none⟩) 4 c) ∧ Own8 w' w.heap.size (.slice (some ⟨g, 0, none⟩) 4 c) (be4 m) ∧ Below w.heap.size w w' := by
  have hc := be4_cells m hm
  have H := Lib.hid hc; clear hc
  go_enter Try.func43, Try.ntmps43
  go_wp2
  go_ret
  refine ⟨_, _, rfl, ?_, (Below.refl _ _).alloc (Nat.le_refl _) _⟩
  have := own8_new w w.heap.size (Nat.le_refl _) (be4 m) 4 rfl (by simp [maxLen])
  rw [H.out] at this
  exact this
theorem Own8.reads {w : World} {base n c : Nat} {A : Option Addr} {l : List UInt8} (h : Own8 w base (.slice A n c) l) : Reads w w.heap.size 1 A n (bvs l) := by
  obtain ⟨A', c', h1, _, h2⟩ := own8_form h
  cases h1
  exact h2

set_option maxRecDepth 100000 in
set_option maxHeartbeats 1000000 in
theorem rEncode_any (A : Option Addr) (c : Nat) (ls : List (List UInt8)) (w : World) (hl : Lists w w.heap.size A ls) (hn : ls.length ≤ 140737488355328) :
    Calls Try.prog 13 #[.slice A ls.length c] w (EncPost ls w) := by
  go_enter Try.func13, Try.ntmps13
  go_wp2
  go_loop [4, 10] (fun s i => ∃ k : Nat, k ≤ ls.length ∧ i = .int .i64 k ∧ s = .int .i64 ((4 + bulk (ls.take k) : Nat) : Int) ∧ ((4 + bulk (ls.take k) : Nat) : Int) ≤ 1048576) (fun _ i => ls.length - (intOf i).toNat)
  case atStart => exact ⟨0, Nat.zero_le _, rfl, rfl, by simp [bulk]⟩
  case round =>
    obtain ⟨k, hk, rfl, rfl, hs⟩ := hrel
    by_cases hlt : k < ls.length
    · obtain ⟨l, b, off, A', c', hlk, rfl, hb, hcell, hc', hr⟩ := hl.at_ k hlt
      have hts := Lib.hid (bulk_take_succ ls k hlt)
      have hle := Lib.hid (bulk_take_le ls (k + 1))
      obtain ⟨z, hz⟩ : ∃ z, z = 4 + bulk (ls.take k) := ⟨_, rfl⟩
      rw [← hz] at hs ⊢
      have Hz := Lib.hid hz; clear hz
      by_cases ho1 : 1048576 < (l.length : Int)
      · go_wp2
        go_ret2
        exact EncPost.no (encOK_no2 (by have := hts.out; have := hle.out; have := Hz.out; rw [hlk.out] at *; omega)) (Below.refl _ _)
      · by_cases hov : 1048576 < (z : Int) + 4 + (l.length : Int)
        · go_wp2
          go_ret2
          exact EncPost.no (encOK_no2 (by have := hts.out; have := hle.out; have := Hz.out; rw [hlk.out] at *; omega)) (Below.refl _ _)
        · go_wp2
          go_round
          case rel => exact ⟨k + 1, by omega, by go_num, by rw [hts.out, hlk.out]; have := Hz.out; go_num, by rw [hts.out, hlk.out]; have := Hz.out; omega⟩
          case measure => simp [intOf]; omega
    · obtain rfl : k = ls.length := by omega
      rw [List.take_length] at hs ⊢
      by_cases h1 : 65536 < (ls.length : Int)
      · go_wp2
        go_ret2
        exact EncPost.no (encOK_no1 (by omega)) (Below.refl _ _)
      · have hE := Lib.hid (encOK_of (l := ls) (by omega) (by omega))
        go_wp2_with (first
          | (go_at_call 43; go_must (refine (rfour_any ls.length (by omega) _).mono ?_); rintro e w2 ⟨g2, c2, rfl, hown2, hb2⟩))
        go_loopw [6, 42] (fun v i wr => ∃ k : Nat, k ≤ ls.length ∧ i = .int .i64 k ∧ Own8 wr w.heap.size v (be4 ls.length ++ members (ls.take k)) ∧ Below w.heap.size w wr) (fun _ i _ => ls.length - (intOf i).toNat)
        case atStart => exact ⟨0, Nat.zero_le _, rfl, by simpa [members] using hown2, hb2⟩
        case round =>
          obtain ⟨k, hk, rfl, hown, hbw⟩ := hrel
          by_cases hlt : k < ls.length
          · obtain ⟨l, b, off, A', c', hlk, rfl, hb, hcell, hc', hr⟩ := hl.at_b hbw k hlt
            have hts := Lib.hid (members_take_succ ls k hlt)
            have hle := bulk_take_le ls (k + 1)
            have hbs := bulk_take_succ ls k hlt
            have hml : (be4 ls.length ++ members (ls.take k)).length = 4 + bulk (ls.take k) := by rw [List.length_append, be4_length, members_length]
            rw [hlk.out] at hbs
            have hsz : (be4 ls.length ++ members (ls.take k)).length + 4 + l.length ≤ 1048576 := by omega
            have Hsz := Lib.hid hsz
            clear hle hbs hml hsz hs
            have tok1 : True := trivial
            go_wp2_with (first
              | (go_at_call 43; go_must (refine (rfour_any l.length (by have := Hsz.out; omega) _).mono ?_); rintro e w3 ⟨g3, c3, rfl, hown3, hb3⟩; have hcell3 := (hb3.cell (p := ⟨b, off + k, none⟩) (Nat.lt_of_lt_of_le hb hbw.size)).trans hcell)
              | (at_builtin; have _t := tok1; go_must (refine app8 rfl rfl rfl rfl (own8_below hown hb3) hown3.reads (by have := Hsz.out; omega) (Nat.le_trans hbw.size hb3.size) ?_); intro v4 w4 hown4 hg4 hx4; have hb4 := below_own8 (hbw.trans (hb3.mono hbw.size)) (own8_below hown hb3) hg4; have hcell4 := (hb4.cell (p := ⟨b, off + k, none⟩) hb).trans ((hbw.cell (p := ⟨b, off + k, none⟩) hb).symm.trans hcell); clear tok1)
              | (at_builtin; go_must (refine app8 rfl rfl rfl rfl hown4 (hr.below hb4) (by have := Hsz.out; rw [List.length_append, be4_length]; omega) hb4.size ?_); intro v5 w5 hown5 hg5 hx5; have hb5 := below_own8 hb4 hown4 hg5))
            go_roundw
            case rel => exact ⟨k + 1, by omega, by go_num, by rw [hts.out, hlk.out]; simpa using hown5, hb5⟩
            case measure => simp [intOf]; omega
          · obtain rfl : k = ls.length := by omega
            go_wp2
            go_ret2
            exact EncPost.yes hE.out (by simpa using hown) hbw
end Go.Proofs.Ytbpgbihcihnieaa

namespace Go.Proofs.Ytbpgbihcihnieaa
open Go.RowKit

/-- A number of 4 bytes off b. -/
def CutPost (l : List UInt8) (B : Nat) (w : World) (e : Ending) (w' : World) : Prop :=
  (∃ n, w' = w.drewN n) ∧ (if l.length < 4 then e = .returned (.tuple #[.int .i64 (-1), .slice none 0 0]) else
    ∃ A c, e = .returned (.tuple #[.int .i64 (num4 l), .slice A (l.length - 4) c]) ∧ l.length - 4 ≤ c ∧ Reads w B 1 A (l.length - 4) (bvs (l.drop 4)))

theorem CutPost.mk {l : List UInt8} {B n c q : Nat} {w : World} {A : Option Addr} {v : Int} (h4 : 4 ≤ (l.length : Int)) (Ha : Hid (num4 l = n)) (hv : v = (n : Int)) (hc : l.length - 4 ≤ c)
    (hr : Reads w B 1 A (l.length - 4) (bvs l |>.drop (4 * 1))) : CutPost l B w (.returned (.tuple #[.int .i64 v, .slice A (l.length - 4) c])) (w.drewN q) := by
  refine ⟨⟨q, rfl⟩, ?_⟩
  rw [if_neg (by omega)]
  refine ⟨A, c, ?_, hc, ?_⟩
  · rw [hv, ← Ha.out]
  · simpa [bvs, List.map_drop] using hr
set_option maxRecDepth 100000 in
set_option maxHeartbeats 1000000 in
theorem cut_any (A : Option Addr) (c B : Nat) (l : List UInt8) (w : World) (hr : Reads w B 1 A l.length (bvs l)) (hc : l.length ≤ c) (hm : l.length ≤ 140737488355328) :
    Calls Try.prog 47 #[.slice A l.length c] w (CutPost l B w) := by
  by_cases h4 : (l.length : Int) < 4
  · go_enter Try.func47, Try.ntmps47
    go_wp2
    go_ret2
    exact ⟨⟨0, rfl⟩, by rw [if_pos (by omega)]; rfl⟩
  · obtain ⟨b, off, rfl, hb, hcell⟩ := hr.bytes (by omega)
    have hcut := hr.cut (k := 4) (cap := c) (by omega) hc
    obtain ⟨a0, ha0⟩ : ∃ x, x = l.getD 0 0 := ⟨_, rfl⟩
    obtain ⟨a1, ha1⟩ : ∃ x, x = l.getD 1 0 := ⟨_, rfl⟩
    obtain ⟨a2, ha2⟩ : ∃ x, x = l.getD 2 0 := ⟨_, rfl⟩
    obtain ⟨a3, ha3⟩ : ∃ x, x = l.getD 3 0 := ⟨_, rfl⟩
    have hc0 := hcell 0 (by omega)
    have hc1 := hcell 1 (by omega)
    have hc2 := hcell 2 (by omega)
    have hc3 := hcell 3 (by omega)
    rw [← ha0] at hc0
    rw [← ha1] at hc1
    rw [← ha2] at hc2
    rw [← ha3] at hc3
    have Ha := Lib.hid (show num4 l = a0.toNat * 16777216 + a1.toNat * 65536 + a2.toNat * 256 + a3.toNat by rw [ha0, ha1, ha2, ha3]; rfl)
    clear ha0 ha1 ha2 ha3 hcell
    have p0 : (a0.toNat : Int) < 256 := by have := a0.toNat_lt; omega
    have p1 : (a1.toNat : Int) < 256 := by have := a1.toNat_lt; omega
    have p2 : (a2.toNat : Int) < 256 := by have := a2.toNat_lt; omega
    have p3 : (a3.toNat : Int) < 256 := by have := a3.toNat_lt; omega
    have q0 : (0 : Int) < (l.length : Int) := by omega
    have q1 : (1 : Int) < (l.length : Int) := by omega
    have q2 : (2 : Int) < (l.length : Int) := by omega
    have q3 : (3 : Int) < (l.length : Int) := by omega
    have q4 : (4 : Int) ≤ (l.length : Int) := by omega
    simp only [Nat.add_zero] at hc0
    go_enter Try.func47, Try.ntmps47
    go_wp2
    go_quiet (fail)
    go_wp2
    · have h : c = 4 := by assumption
      go_ret2
      exact CutPost.mk h4 Ha (or_four _ _ _ _ (by omega) (by omega) (by omega) (by omega)) (by omega) (by rw [if_pos h] at hcut; exact hcut)
    · have h : ¬ c = 4 := by assumption
      go_ret2
      exact CutPost.mk h4 Ha (or_four _ _ _ _ (by omega) (by omega) (by omega) (by omega)) (by omega) (by rw [if_neg h] at hcut; simpa [add_none] using hcut)

theorem cut_any' (A : Option Addr) (n c B : Nat) (l : List UInt8) (w : World) (hn : l.length = n) (hr : Reads w B 1 A n (bvs l)) (hc : n ≤ c) (hm : n ≤ 140737488355328) :
    Calls Try.prog 47 #[.slice A n c] w (CutPost l B w) := by
  subst hn; exact cut_any A c B l w hr hc hm
/-- 8 bytes, or none. -/
def numE (l : List UInt8) : Int := if l.length = 8 then 0 else 2
def numV (l : List UInt8) : Nat := if l.length = 8 then num4 l * 4294967296 + num4 (l.drop 4) else 0
def ReadNumPost (l : List UInt8) (w : World) (e : Ending) (w' : World) : Prop := e = .returned (.tuple #[.int .u64 (numV l), .int .i64 (numE l)]) ∧ ∃ n, w' = w.drewN n
theorem ReadNumPost.no {l : List UInt8} {w : World} {q : Nat} (h : ¬ l.length = 8) : ReadNumPost l w (.returned (.tuple #[.int .u64 0, .int .i64 2])) (w.drewN q) := ⟨by simp [numV, numE, h], q, rfl⟩
theorem ReadNumPost.yes {l : List UInt8} {w : World} {q : Nat} {n : Int} (h : l.length = 8) (hn : n = ((num4 l * 4294967296 + num4 (l.drop 4) : Nat) : Int)) : ReadNumPost l w (.returned (.tuple #[.int .u64 n, .int .i64 0])) (w.drewN q) := ⟨by rw [hn]; simp [numV, numE, h], q, rfl⟩
theorem CutPost.yes {l : List UInt8} {B : Nat} {w w' : World} {e : Ending} (h : CutPost l B w e w') (hl : 4 ≤ l.length) :
    ∃ A c n, w' = w.drewN n ∧ e = .returned (.tuple #[.int .i64 (num4 l), .slice A (l.length - 4) c]) ∧ l.length - 4 ≤ c ∧ Reads w B 1 A (l.length - 4) (bvs (l.drop 4)) := by
  obtain ⟨⟨n, rfl⟩, h⟩ := h
  rw [if_neg (by omega)] at h
  obtain ⟨A, c, h1, h2, h3⟩ := h
  exact ⟨A, c, n, rfl, h1, h2, h3⟩
theorem CutPost.get {l : List UInt8} {B : Nat} {w w' : World} {e : Ending} (h : CutPost l B w e w') {x m : Nat} (hx : x = num4 l) (hl : m + 4 = l.length) :
    ∃ A c n, w' = w.drewN n ∧ e = .returned (.tuple #[.int .i64 (x : Nat), .slice A m c]) ∧ m ≤ c ∧ Reads w B 1 A m (bvs (l.drop 4)) := by
  obtain ⟨A, c, n, h1, h2, h3, h4⟩ := h.yes (by omega)
  obtain rfl : m = l.length - 4 := by omega
  subst hx
  exact ⟨A, c, n, h1, h2, h3, h4⟩
theorem CutPost.no {l : List UInt8} {B : Nat} {w w' : World} {e : Ending} (h : CutPost l B w e w') (hl : l.length < 4) :
    ∃ n, w' = w.drewN n ∧ e = .returned (.tuple #[.int .i64 (-1), .slice none 0 0]) := by
  obtain ⟨⟨n, rfl⟩, h⟩ := h
  rw [if_pos hl] at h
  exact ⟨n, rfl, h⟩

set_option maxRecDepth 100000 in
set_option maxHeartbeats 1000000 in
theorem ReadNum_any (A : Option Addr) (c B : Nat) (l : List UInt8) (w : World) (hr : Reads w B 1 A l.length (bvs l)) (hc : l.length ≤ c) (hm : l.length ≤ 140737488355328) :
    Calls Try.prog 20 #[.slice A l.length c] w (ReadNumPost l w) := by
  by_cases h8 : l.length = 8
  · have hb8 : ((l.length : Int) == 8) = true := by simp [h8]
    have hlt := num4_lt l
    have hlt2 := num4_lt (l.drop 4)
    have H8 := Lib.hid h8
    have g8 : 8 ≤ l.length := by omega
    have g8' : l.length ≤ 8 := by omega
    clear h8
    go_enter Try.func20, Try.ntmps20
    have tok1 : True := trivial
    go_wp2_with (first
      | (go_at_call 47; have _t := tok1; go_must (refine (cut_any A c B l _ hr hc hm).mono ?_; intro e w1 hp; obtain ⟨A1, c1, n1, rfl, rfl, hc1, hr1⟩ := hp.yes (by omega); clear tok1 hp))
      | (go_at_call 47; go_must (refine (cut_any' A1 (l.length - 4) c1 B (l.drop 4) _ (by simp) (hr1.drewN _) hc1 (by simp; omega)).mono ?_; intro e w2 hp; obtain ⟨A2, c2, n2, rfl, rfl, hc2, hr2⟩ := hp.yes (by simp; omega); clear hp)))
    go_ret2
    exact ReadNumPost.yes H8.out (or_u32 _ _ hlt hlt2)
  · have hb8 : ((l.length : Int) == 8) = false := by simp; omega
    have H8 := Lib.hid h8
    clear h8
    go_enter Try.func20, Try.ntmps20
    go_wp2
    go_ret2
    exact ReadNumPost.no (q := 0) H8.out
theorem four_any' (base : Nat) (v : Value) (l : List UInt8) (x : Int) (m : Nat) (hx : x = (m : Int)) (hm : m < 4294967296) (w : World) (hown : Own8 w base v l) (hn : l.length + 4 ≤ 140737488355328) (hb : base ≤ w.heap.size) :
    Calls Try.prog 44 #[v, .int .i64 x] w fun e w' => ∃ v', e = .returned v' ∧ Own8 w' base v' (l ++ be4 m) ∧ w.grownBy w' v.ownBlock := by
  subst hx; exact four_any base v l m hm w hown hn hb
def be8 (n : Nat) : List UInt8 := be4 (n / 4294967296) ++ be4 (n % 4294967296)
theorem be8_length (n : Nat) : (be8 n).length = 8 := rfl
set_option maxRecDepth 100000 in
set_option maxHeartbeats 1000000 in
theorem Num_any (n : Nat) (hn : n < 18446744073709551616) (w : World) :
    Calls Try.prog 21 #[.int .u64 (n : Int)] w fun e w' => ∃ v, e = .returned v ∧ Own8 w' w.heap.size v (be8 n) ∧ Below w.heap.size w w' := by
  have Hn := Lib.hid hn
  have hn' : (n : Int) ≤ 18446744073709551615 := by omega
  clear hn
  go_enter Try.func21, Try.ntmps21
  have tok1 : True := trivial
  go_wp2_with (first
    | (go_at_call 44; have _t := tok1; go_must (refine (four_any' w.heap.size _ [] _ (n / 4294967296) (by omega) (by have := Hn.out; omega) _ (own8_nil _ _) (by simp) (Nat.le_refl _)).mono ?_; rintro e w1 ⟨v1, rfl, hown1, hg1⟩; have hb1 := below_own8 (Below.refl _ _) (own8_nil _ _) hg1; clear tok1))
    | (go_at_call 44; go_must (refine (four_any' w.heap.size _ _ _ (n % 4294967296) (by omega) (by omega) _ hown1 (by rw [List.length_append, be4_length]; simp) hb1.size).mono ?_; rintro e w2 ⟨v2, rfl, hown2, hg2⟩; have hb2 := below_own8 hb1 hown1 hg2)))
  go_ret
  exact ⟨_, rfl, hown2, hb2⟩

theorem be8_at (n k : Nat) (hk : k < 8) : (be8 n).getD k 0 = UInt8.ofNat (n / 2 ^ (56 - 8 * k)) := by
  have h : ∀ x y : Nat, x % 256 = y % 256 → UInt8.ofNat x = UInt8.ofNat y := by
    intro x y h
    apply UInt8.toNat_inj.1
    simpa using h
  match k, hk with
  | 0, _ => exact h _ _ (by omega)
  | 1, _ => exact h _ _ (by omega)
  | 2, _ => exact h _ _ (by omega)
  | 3, _ => exact h _ _ (by omega)
  | 4, _ => exact h _ _ (by omega)
  | 5, _ => exact h _ _ (by omega)
  | 6, _ => exact h _ _ (by omega)
  | 7, _ => exact h _ _ (by omega)
/-- The bytes after k rounds. -/
def be8k (n k : Nat) : List UInt8 := (be8 n).take k ++ List.replicate (8 - k) 0
theorem be8k_length (n k : Nat) (hk : k ≤ 8) : (be8k n k).length = 8 := by simp [be8k, be8_length]; omega
theorem be8k_all (n : Nat) : be8k n 8 = be8 n := by
  simp only [be8k, Nat.sub_self, List.replicate_zero, List.append_nil]
  exact List.take_of_length_le (by rw [be8_length]; omega)
theorem be8k_set (n k : Nat) (hk : k < 8) : (be8k n k).set k (UInt8.ofNat (n / 2 ^ (56 - 8 * k))) = be8k n (k + 1) := by
  have hl : k < (be8 n).length := by rw [be8_length]; exact hk
  have ht : ((be8 n).take k).length = k := by rw [List.length_take, be8_length]; omega
  unfold be8k
  rw [List.set_append_right _ _ (by omega), ht, Nat.sub_self, show 8 - k = (8 - (k + 1)) + 1 from by omega, List.replicate_succ, List.set_cons_zero, List.take_succ_eq_append_getElem hl]
  have := be8_at n k hk
  rw [List.getD_eq_getElem?_getD, List.getElem?_eq_getElem hl] at this
  simp only [Option.getD_some] at this
  rw [this]
  simp
theorem store8 {w : World} {base g k cap : Nat} {l : List UInt8} {n : Nat} (h : Own8 w base (.slice (some ⟨g, 0, none⟩) n cap) l) (u : UInt8) (x : Int) (hx : x = (u.toNat : Int)) :
    Own8 (w.setCell ⟨g, k, none⟩ (.int .u8 x)) base (.slice (some ⟨g, 0, none⟩) n cap) (l.set k u) ∧ w.grownBy (w.setCell ⟨g, k, none⟩ (.int .u8 x)) (some g) := by
  have hn : n = l.length := by
    obtain ⟨A', c', h1, _⟩ := own8_form h
    cases h1; rfl
  subst hn
  subst hx
  obtain ⟨h1, h2⟩ := World.ownsRow.stored h k (bv u)
  refine ⟨?_, h2⟩
  unfold Own8
  rw [List.length_set, show bvs (l.set k u) = (bvs l).set k (bv u) from by simp [bvs, List.map_set]]
  exact h1
theorem full8 {ops : Array Oper} {rest : List Oper} {o : Oper} {a : Act} {w : World} {Q : Exit → Act → World → Prop} {l c : Operand} {base n : Nat} {kl kc : IntKind} {L C : Int}
    (hgd : o.guard = none) (ho : o.op = Op.makeSlice 24 l c) (hl : a.eval l = .int kl L) (hc : a.eval c = .int kc C) (hL : L = (n : Int)) (hC : C = (n : Int)) (hn : n ≤ 140737488355328) (hb : base ≤ w.heap.size)
    (h : ∀ w', Own8 w' base (.slice (some ⟨w.heap.size, 0, none⟩) n n) (List.replicate n 0) → w.grownBy w' none → wpList Try.prog ops Q rest (a.put o.dst (.slice (some ⟨w.heap.size, 0, none⟩) n n)) w') : wpList Try.prog ops Q (o :: rest) a w := by
  obtain ⟨i0, hi0, hz0, hz1, hz2⟩ := info_parts u8info
  refine wpList_make_full w hgd l c _ ho base 5 i0 _ 1 Try.underlying24 hi0 hz0 hz1 kl kc L C n hl hc hL hC (by rw [hz2]; omega) (by simp only [maxLen]; omega) hb ?_
  intro w' h1 h2
  refine h w' ?_ h2
  unfold Own8
  rw [List.length_replicate]
  have e : (madeCells (Value.int .u8 0).cells (n * 1)).toList = bvs (List.replicate n 0) := by
    simp only [madeCells, bvs, Value.cells, Nat.mul_one]
    apply List.ext_getElem
    · simp
    · intro i h1 h2
      simp [Nat.mod_one, bv]
  rw [← e]
  exact h1
theorem frozen8 {w : World} {base g cap : Nat} {l : List UInt8} {n : Nat} (h : Own8 w base (.slice (some ⟨g, 0, none⟩) n cap) l) (k : Nat) : w.frozen? ⟨g, k, none⟩ = false := by
  obtain ⟨_, ⟨h', _⟩ | ⟨g', cap', cur, h', hb, hg, _⟩⟩ := h
  · simp at h'
  · simp only [Value.slice.injEq, Option.some.injEq, Addr.mk.injEq, and_true] at h'
    obtain ⟨rfl, _⟩ := h'
    simp [World.frozen?, hg]
theorem store8' {w : World} {base g cap k : Nat} {l l' : List UInt8} {n : Nat} (h : Own8 w base (.slice (some ⟨g, 0, none⟩) n cap) l) (u : UInt8) (j : Nat) (hs : l.set k u = l') (_hj : j = k) :
    ∀ x : Int, x = (u.toNat : Int) → Own8 (w.setCell ⟨g, k, none⟩ (.int .u8 x)) base (.slice (some ⟨g, 0, none⟩) n cap) l' :=
  fun x hx => hs ▸ (store8 h u x hx).1
set_option maxRecDepth 100000 in
set_option maxHeartbeats 2000000 in
theorem rNum_any (n : Nat) (hn : n < 18446744073709551616) (w : World) :
    Calls Try.prog 23 #[.int .u64 (n : Int)] w fun e w' => ∃ v, e = .returned v ∧ Own8 w' w.heap.size v (be8 n) ∧ Below w.heap.size w w' := by
  have hn' : (n : Int) ≤ 18446744073709551615 := by omega
  clear hn
  go_enter Try.func23, Try.ntmps23
  go_wp2_with (at_make; go_must (refine full8 rfl rfl rfl rfl (n := 8) rfl rfl (by omega) (Nat.le_refl _) ?_; intro w1 hown1 hg1; have hb1 := below_none (Below.refl _ _) hg1))
  go_loopw [6] (fun i wr => ∃ k : Nat, k ≤ 8 ∧ i = .int .i64 k ∧ Own8 wr w.heap.size (.slice (some ⟨w.heap.size, 0, none⟩) 8 8) (be8k n k) ∧ Below w.heap.size w wr) (fun i _ => 8 - (intOf i).toNat)
  case atStart => exact ⟨0, by omega, rfl, hown1, hb1⟩
  case round =>
    obtain ⟨k, hk, rfl, hown, hbw⟩ := hrel
    by_cases hlt : k < 8
    · have hk8 : k = 0 ∨ k = 1 ∨ k = 2 ∨ k = 3 ∨ k = 4 ∨ k = 5 ∨ k = 6 ∨ k = 7 := by omega
      have hset := Lib.hid (be8k_set n k hlt)
      have hcell : wr.cell? ⟨w.heap.size, k, none⟩ = some (.int .u8 (((be8k n k).getD k 0).toNat : Int)) := by
        obtain ⟨b, off, h1, _, h2⟩ := (Own8.reads hown).bytes (by omega)
        cases h1
        simpa using h2 k hlt
      rcases hk8 with rfl | rfl | rfl | rfl | rfl | rfl | rfl | rfl
      all_goals
        have hfz := frozen8 hown
        have hst := store8' hown _ _ hset.out rfl
        have HB := Lib.hid hst
        clear hst hset
        go_wp2
        go_roundw
        case rel =>
          refine ⟨_, ?_, ?_, HB.out _ ?_, hbw.setCell (Nat.le_refl _) _⟩
          · omega
          · rfl
          · first | (simp; done) | (simp; omega)
        case measure => simp [intOf]
    · obtain rfl : k = 8 := by omega
      go_wp2
      go_ret
      exact ⟨_, rfl, by rw [← be8k_all n]; exact hown, hbw⟩
/-- The number of the first k bytes. -/
def numK (l : List UInt8) : Nat → Nat
  | 0 => 0
  | k + 1 => numK l k * 256 + (l.getD k 0).toNat
theorem numK_lt (l : List UInt8) : ∀ k, numK l k < 256 ^ k
  | 0 => by simp [numK]
  | k + 1 => by
    have h1 := numK_lt l k
    have h2 := (l.getD k 0).toNat_lt
    rw [numK, Nat.pow_succ]; omega
theorem numK_eight (l : List UInt8) : numK l 8 = num4 l * 4294967296 + num4 (l.drop 4) := by
  simp only [numK, num4, List.getD_eq_getElem?_getD, List.getElem?_drop, Nat.reduceAdd]
  omega
theorem shl_or (a b : Nat) (ha : a < 72057594037927936) (hb : b < 256) : bits .or .u64 ((a : Int) * 256) (b : Int) = ((a * 256 + b : Nat) : Int) := by
  have := u64_or_nat (a * 256) b (by omega) (by omega)
  rw [show a * 256 ||| b = a * 256 + b from or_add a b 8 (by omega)] at this
  rw [← this]; simp
set_option maxRecDepth 100000 in
set_option maxHeartbeats 1000000 in
theorem rReadNum_any (A : Option Addr) (c B : Nat) (l : List UInt8) (w : World) (hr : Reads w B 1 A l.length (bvs l)) (hm : l.length ≤ 140737488355328) :
    Calls Try.prog 22 #[.slice A l.length c] w (ReadNumPost l w) := by
  by_cases h8 : l.length = 8
  · have hb8 : ((l.length : Int) == 8) = true := by simp [h8]
    have H8 := Lib.hid h8
    have g8 : 8 ≤ l.length := by omega
    have g8' : l.length ≤ 8 := by omega
    clear h8
    obtain ⟨b, off, rfl, hb, hcell⟩ := hr.bytes (by omega)
    go_enter Try.func22, Try.ntmps22
    go_wp2
    go_loop [4, 11] (fun n i => ∃ k : Nat, k ≤ 8 ∧ i = .int .i64 k ∧ n = .int .u64 (numK l k : Nat)) (fun _ i => 8 - (intOf i).toNat)
    case atStart => exact ⟨0, by omega, rfl, rfl⟩
    case round =>
      obtain ⟨k, hk, rfl, rfl⟩ := hrel
      by_cases hlt : k < 8
      · have hc := hcell k (by omega)
        obtain ⟨x, hx⟩ : ∃ x, x = numK l k := ⟨_, rfl⟩
        have hxl : (x : Int) < 72057594037927936 := by
          have h1 := numK_lt l k
          have h2 : 256 ^ k ≤ 256 ^ 7 := Nat.pow_le_pow_right (by omega) (by omega)
          rw [← hx] at h1; omega
        obtain ⟨y, hy⟩ : ∃ y, y = l.getD k 0 := ⟨_, rfl⟩
        rw [← hx]
        rw [← hy] at hc
        have hyl : (y.toNat : Int) < 256 := by have := y.toNat_lt; omega
        have HX := Lib.hid (show numK l (k + 1) = x * 256 + y.toNat by rw [numK, hx, hy])
        have hkl : (k : Int) < (l.length : Int) := by omega
        clear hx hy
        go_wp2
        go_round
        case rel => exact ⟨k + 1, by omega, by go_num, by rw [HX.out]; exact congrArg (Value.int .u64) (shl_or _ _ (by omega) (by omega))⟩
        case measure => simp [intOf]; omega
      · obtain rfl : k = 8 := by omega
        have H9 := Lib.hid (numK_eight l)
        go_wp2
        go_ret2
        exact ReadNumPost.yes (q := 0) H8.out (by rw [H9.out])
  · have hb8 : ((l.length : Int) == 8) = false := by simp; omega
    have H8 := Lib.hid h8
    clear h8
    go_enter Try.func22, Try.ntmps22
    go_wp2
    go_ret2
    exact ReadNumPost.no (q := 0) H8.out
end Go.Proofs.Ytbpgbihcihnieaa
