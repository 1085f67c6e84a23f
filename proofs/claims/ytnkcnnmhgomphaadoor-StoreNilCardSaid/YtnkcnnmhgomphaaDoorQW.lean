/- The texts Bits W1 Lst W2 W6 of this work, merged by wip/merge.py. No conditions. -/
import Derived.WalkKit
import Derived.Test.YtnkcnnmhgomphaaDoorQA
import Derived.Deep.DeepMust
import Derived.Deep.QuietTactic
import Derived.BigQuiet
namespace Go.Proofs.YtnkcnnmhgomphaaDoor
theorem ofInt_i64 (a : Nat) (ha : a < 9223372036854775808) : (BitVec.ofInt 64 (a : Int)).toNat = a := by
  rw [BitVec.ofInt_natCast, BitVec.toNat_ofNat]; exact Nat.mod_eq_of_lt (by omega)
theorem i64_or_nat (a b : Nat) (ha : a < 9223372036854775808) (hb : b < 9223372036854775808) : bits .or .i64 (a : Int) (b : Int) = ((a ||| b : Nat) : Int) := by
  have hx : a ||| b < 2 ^ 63 := Nat.or_lt_two_pow (by omega) (by omega)
  show IntKind.i64.wrap ((BitVec.ofInt 64 (a : Int) ||| BitVec.ofInt 64 (b : Int)).toNat : Int) = _
  rw [BitVec.toNat_or, ofInt_i64 a ha, ofInt_i64 b hb, IntKind.wrap_i64]
  omega
theorem or_add (x b k : Nat) (hb : b < 2 ^ k) : (x * 2 ^ k) ||| b = x * 2 ^ k + b := by
  rw [Nat.mul_comm, ← Nat.two_pow_add_eq_or_of_lt hb]
theorem or_four (a b c d : Nat) (ha : a < 256) (hb : b < 256) (hc : c < 256) (hd : d < 256) :
    bits .or .i64 (bits .or .i64 (bits .or .i64 ((a : Int) * 16777216) ((b : Int) * 65536)) ((c : Int) * 256)) (d : Int) = ((a * 16777216 + b * 65536 + c * 256 + d : Nat) : Int) := by
  have e1 : bits .or .i64 ((a : Int) * 16777216) ((b : Int) * 65536) = ((a * 16777216 + b * 65536 : Nat) : Int) := by
    have := i64_or_nat (a * 16777216) (b * 65536) (by omega) (by omega)
    rw [show a * 16777216 ||| b * 65536 = a * 16777216 + b * 65536 from or_add a (b * 65536) 24 (by omega)] at this
    rw [← this]; simp
  have e2 : bits .or .i64 ((a * 16777216 + b * 65536 : Nat) : Int) ((c : Int) * 256) = ((a * 16777216 + b * 65536 + c * 256 : Nat) : Int) := by
    have := i64_or_nat (a * 16777216 + b * 65536) (c * 256) (by omega) (by omega)
    rw [show (a * 16777216 + b * 65536) ||| c * 256 = a * 16777216 + b * 65536 + c * 256 from by
      have := or_add (a * 256 + b) (c * 256) 16 (by omega)
      rw [show (a * 256 + b) * 2 ^ 16 = a * 16777216 + b * 65536 from by omega] at this
      exact this] at this
    rw [← this]; simp
  have e3 : bits .or .i64 ((a * 16777216 + b * 65536 + c * 256 : Nat) : Int) (d : Int) = ((a * 16777216 + b * 65536 + c * 256 + d : Nat) : Int) := by
    have := i64_or_nat (a * 16777216 + b * 65536 + c * 256) d (by omega) (by omega)
    rw [show (a * 16777216 + b * 65536 + c * 256) ||| d = a * 16777216 + b * 65536 + c * 256 + d from by
      have := or_add (a * 65536 + b * 256 + c) d 8 (by omega)
      rw [show (a * 65536 + b * 256 + c) * 2 ^ 8 = a * 16777216 + b * 65536 + c * 256 from by omega] at this
      exact this] at this
    exact this
  rw [e1, e2, e3]
theorem ofInt_u64 (a : Nat) (ha : a < 18446744073709551616) : (BitVec.ofInt 64 (a : Int)).toNat = a := by
  rw [BitVec.ofInt_natCast, BitVec.toNat_ofNat]; exact Nat.mod_eq_of_lt (by omega)
theorem u64_or_nat (a b : Nat) (ha : a < 18446744073709551616) (hb : b < 18446744073709551616) : bits .or .u64 (a : Int) (b : Int) = ((a ||| b : Nat) : Int) := by
  have hx : a ||| b < 2 ^ 64 := Nat.or_lt_two_pow (by omega) (by omega)
  show IntKind.u64.wrap ((BitVec.ofInt 64 (a : Int) ||| BitVec.ofInt 64 (b : Int)).toNat : Int) = _
  rw [BitVec.toNat_or, ofInt_u64 a ha, ofInt_u64 b hb]
  have : IntKind.u64.wrap ((a ||| b : Nat) : Int) = (((a ||| b : Nat) : Int)) % 18446744073709551616 := by
    simp [IntKind.wrap, IntKind.signed, IntKind.bits]
  rw [this]; omega
theorem or_u32 (a b : Nat) (ha : a < 4294967296) (hb : b < 4294967296) : bits .or .u64 ((a : Int) * 4294967296) (b : Int) = ((a * 4294967296 + b : Nat) : Int) := by
  have := u64_or_nat (a * 4294967296) b (by omega) (by omega)
  rw [show a * 4294967296 ||| b = a * 4294967296 + b from or_add a b 32 (by omega)] at this
  rw [← this]; simp
end Go.Proofs.YtnkcnnmhgomphaaDoor

namespace Go.Proofs.YtnkcnnmhgomphaaDoor
open Go.RowKit

set_option maxRecDepth 100000 in
set_option maxHeartbeats 400000 in
theorem four_any (base : Nat) (v : Value) (l : List UInt8) (m : Nat) (hm : m < 4294967296) (w : World) (hown : Own8 w base v l) (hn : l.length + 4 ≤ 140737488355328) (hb : base ≤ w.heap.size) :
    Calls Tryd.prog 49 #[v, .int .i64 (m : Int)] w fun e w' => ∃ v', e = .returned v' ∧ Own8 w' base v' (l ++ be4 m) ∧ w.grownBy w' v.ownBlock := by
  have hc := be4_cells m hm
  have H := Lib.hid hc; clear hc
  go_enter Tryd.func49, Tryd.ntmps49
  go_wp2_with (at_builtin; go_must (refine app8 rfl rfl rfl rfl (hown.alloc _) (news := be4 m) (by rw [H.out]; exact reads_new _ _ _ _ rfl) (by omega) (by simp; omega) ?_); intro v1 w1 hown1 hg1 hb1)
  go_ret
  refine ⟨_, rfl, hown1, ?_⟩
  exact (World.grownBy_alloc w _ _).trans hg1

def EncPost (ls : List (List UInt8)) (w : World) (e : Ending) (w' : World) : Prop :=
  ∃ v, e = .returned (.tuple #[v, .int .i64 (encE ls)]) ∧ Own8 w' w.heap.size v (encB ls) ∧ Below w.heap.size w w'

theorem EncPost.no {ls : List (List UInt8)} {w w' : World} (h : encOK ls = false) (hb : Below w.heap.size w w') : EncPost ls w (.returned (.tuple #[.slice none 0 0, .int .i64 6])) w' :=
  ⟨_, by rw [encE_no h], by rw [encB_no h]; exact own8_nil _ _, hb⟩
theorem EncPost.yes {ls : List (List UInt8)} {w w' : World} {v : Value} (h : encOK ls = true) (ho : Own8 w' w.heap.size v (be4 ls.length ++ members ls)) (hb : Below w.heap.size w w') : EncPost ls w (.returned (.tuple #[v, .int .i64 0])) w' :=
  ⟨_, by rw [encE_ok h], by rw [encB_ok h]; exact ho, hb⟩

set_option maxRecDepth 100000 in
set_option maxHeartbeats 1000000 in
theorem Encode_any (A : Option Addr) (c : Nat) (ls : List (List UInt8)) (w : World) (hl : Lists w w.heap.size A ls) (hn : ls.length ≤ 140737488355328) :
    Calls Tryd.prog 36 #[.slice A ls.length c] w (EncPost ls w) := by
  by_cases h1 : 65536 < ls.length
  · go_enter Tryd.func36, Tryd.ntmps36
    go_wp2
    go_ret2
    exact EncPost.no (encOK_no1 h1) (Below.refl _ _)
  · go_enter Tryd.func36, Tryd.ntmps36
    go_wp2
    go_loop [4, 15] (fun s i => ∃ k : Nat, k ≤ ls.length ∧ i = .int .i64 k ∧ s = .int .i64 ((4 + bulk (ls.take k) : Nat) : Int) ∧ ((4 + bulk (ls.take k) : Nat) : Int) ≤ 1048576) (fun _ i => ls.length - (intOf i).toNat)
    case atStart => exact ⟨0, Nat.zero_le _, rfl, rfl, by simp [bulk]⟩
    case round =>
      obtain ⟨k, hk, rfl, rfl, hs⟩ := hrel
      by_cases hlt : k < ls.length
      · obtain ⟨l, b, off, A', c', hlk, rfl, hb, hcell, hc', hr⟩ := hl.at_ k hlt
        have hts := Lib.hid (bulk_take_succ ls k hlt)
        have hle := Lib.hid (bulk_take_le ls (k + 1))
        obtain ⟨z, hz⟩ : ∃ z, z = 4 + bulk (ls.take k) := ⟨_, rfl⟩
        rw [← hz] at hs ⊢
        have Hz := Lib.hid hz; clear hz
        by_cases hov : 1048576 - ((z : Int) + 4) < (l.length : Int)
        · go_wp2
          go_ret2
          exact EncPost.no (encOK_no2 (by have := hts.out; have := hle.out; have := Hz.out; rw [hlk.out] at *; omega)) (Below.refl _ _)
        · go_wp2
          go_round
          case rel => exact ⟨k + 1, by omega, by go_num, by rw [hts.out, hlk.out]; have := Hz.out; go_num, by rw [hts.out, hlk.out]; have := Hz.out; omega⟩
          case measure => simp [intOf]; omega
      · obtain rfl : k = ls.length := by omega
        rw [List.take_length] at hs ⊢
        have hE := Lib.hid (encOK_of (l := ls) (by omega) (by omega))
        go_wp2_with (first
          | (at_make; refine make8 rfl rfl rfl rfl (n := 4 + bulk ls) (by simp) (by omega) (Nat.le_refl _) ?_; intro w1 hown1 hg1; have hb1 := below_none (Below.refl _ _) hg1)
          | (go_at_call 49; refine (four_any w.heap.size _ [] ls.length (by omega) _ hown1 (by simp) hb1.size).mono ?_; rintro e w2 ⟨v2, rfl, hown2, hg2⟩; have hb2 := below_own8 hb1 hown1 hg2; clear hg1 hown1 hg2))
        go_loopw [7, 38] (fun v i wr => ∃ k : Nat, k ≤ ls.length ∧ i = .int .i64 k ∧ Own8 wr w.heap.size v (be4 ls.length ++ members (ls.take k)) ∧ Below w.heap.size w wr) (fun _ i _ => ls.length - (intOf i).toNat)
        case atStart => exact ⟨0, Nat.zero_le _, rfl, by simpa [members] using hown2, hb2⟩
        case round =>
          obtain ⟨k, hk, rfl, hown, hbw⟩ := hrel
          by_cases hlt : k < ls.length
          · obtain ⟨l, b, off, A', c', hlk, rfl, hb, hcell, hc', hr⟩ := hl.at_b hbw k hlt
            have hts := Lib.hid (members_take_succ ls k hlt)
            have hle := bulk_take_le ls (k + 1)
            have hbs := bulk_take_succ ls k hlt
            have hml : (be4 ls.length ++ members (ls.take k)).length = 4 + bulk (ls.take k) := by rw [List.length_append, be4_length, members_length]
            rw [hlk.out] at hbs
            have hsz : (be4 ls.length ++ members (ls.take k)).length + 4 + l.length ≤ 1048576 := by omega
            have Hsz := Lib.hid hsz
            clear hle hbs hml hsz hs
            go_wp2_with (first
              | (go_at_call 49; refine (four_any w.heap.size _ _ l.length (by have := Hsz.out; omega) _ hown (by have := Hsz.out; omega) hbw.size).mono ?_; rintro e w3 ⟨v3, rfl, hown3, hg3⟩; have hb3 := below_own8 hbw hown hg3; clear hg3)
              | (at_builtin; go_must (refine app8 rfl rfl rfl rfl hown3 (hr.below hb3) (by have := Hsz.out; rw [List.length_append, be4_length]; omega) hb3.size ?_); intro v4 w4 hown4 hg4 hx4; have hb4 := below_own8 hb3 hown3 hg4))
            go_roundw
            case rel => exact ⟨k + 1, by omega, by go_num, by rw [hts.out, hlk.out]; simpa using hown4, hb4⟩
            case measure => simp [intOf]; omega
          · obtain rfl : k = ls.length := by omega
            go_wp2
            go_ret2
            exact EncPost.yes hE.out (by simpa using hown) hbw
end Go.Proofs.YtnkcnnmhgomphaaDoor

namespace Go.Proofs.YtnkcnnmhgomphaaDoor
open Go.RowKit
theorem slinfo : (Tryd.prog.info? 48).map (fun i => (i.zero, i.size, i.bytes)) = some (some (.slice none 0 0), 1, 24) := by kernel_rfl

theorem own8_form {w : World} {base : Nat} {v : Value} {l : List UInt8} (h : Own8 w base v l) : ∃ A c, v = .slice A l.length c ∧ l.length ≤ c ∧ Reads w w.heap.size 1 A l.length (bvs l) := by
  have h0 := h
  obtain ⟨hl, h | ⟨g, cap, cur, rfl, hb, hh, hle, _⟩⟩ := h
  · obtain ⟨rfl, hn⟩ := h
    have : l = [] := List.eq_nil_of_length_eq_zero hn
    subst this
    exact ⟨none, 0, rfl, by simp, Reads.none_⟩
  · exact ⟨_, cap, rfl, hle, Reads.of_own h0⟩
theorem own8_form' {w : World} {base n : Nat} {v : Value} {l : List UInt8} (h : Own8 w base v l) (hl : l.length = n) : ∃ A c, v = .slice A n c ∧ n ≤ c ∧ Reads w w.heap.size 1 A n (bvs l) := by
  subst hl; exact own8_form h
theorem Reads.via {w wr w5 : World} {B size n : Nat} {A : Option Addr} {xs : List Value} (h : Reads wr B size A n xs) (h1 : Below B w wr) (h2 : Below B w w5) : Reads w5 B size A n xs := h.keep fun _ hp => (h2.cell hp).trans (h1.cell hp).symm
theorem own8_keep {w w' : World} {base : Nat} {v : Value} {l : List UInt8} {row : Option Nat} (h : Own8 w base v l) (hg : w.grownBy w' row) (hne : v.ownBlock = none ∨ v.ownBlock ≠ row) : Own8 w' base v l := World.ownsRow.kept h hg hne
theorem own8_lt {w : World} {base : Nat} {v : Value} {l : List UInt8} (h : Own8 w base v l) : ∀ k, v.ownBlock = some k → base ≤ k ∧ k < w.heap.size := World.ownsRow.lt h
theorem own8_base {w : World} {base base' : Nat} {v : Value} {l : List UInt8} (h : Own8 w base v l) (hb : base' ≤ base) : Own8 w base' v l := by
  obtain ⟨hl, h | ⟨g, cap, cur, h1, h2, h3⟩⟩ := h
  · exact ⟨hl, .inl h⟩
  · exact ⟨hl, .inr ⟨g, cap, cur, h1, by omega, h3⟩⟩

/-- What 'Below' says of all that was there, as 'grownBy'. -/
theorem grown_of_below {w w' : World} (h : Below w.heap.size w w') (row : Option Nat) : w.grownBy w' row := ⟨h.os, h.tape, h.output, h.size, fun k hk _ => h.block k hk⟩
theorem own8_below {w w' : World} {base : Nat} {v : Value} {l : List UInt8} (h : Own8 w base v l) (hb : Below w.heap.size w w') : Own8 w' base v l := own8_keep h (grown_of_below hb none) (by cases v.ownBlock <;> simp)

/-- v is a [][]byte of the call's own; member i is a []byte of the call's own, that reads ls[i]; all rows are apart. -/
structure OwnLL (w : World) (base : Nat) (v : Value) (ls : List (List UInt8)) (vs : List Value) : Prop where
  row : w.ownsRow base 48 1 v ls.length vs
  each : ∀ (i : Nat) (h : i < ls.length), ∃ u, vs[i]? = some u ∧ Own8 w base u ls[i] ∧ (u.ownBlock = none ∨ u.ownBlock ≠ v.ownBlock)
  apart : ∀ (i j : Nat) (u u' : Value), i < j → vs[i]? = some u → vs[j]? = some u' → u.ownBlock = none ∨ u.ownBlock ≠ u'.ownBlock
def OwnL (w : World) (base : Nat) (v : Value) (ls : List (List UInt8)) : Prop := ∃ vs, OwnLL w base v ls vs

theorem OwnL.nil (w : World) (base : Nat) : OwnL w base (.slice none 0 0) [] :=
  ⟨[], World.ownsRow_nil w base _ 1, fun i h => by simp at h, fun i j u u' _ h => by simp at h⟩
theorem OwnL.lists {w : World} {base : Nat} {v : Value} {ls : List (List UInt8)} (h : OwnL w base v ls) : ∃ A c, v = .slice A ls.length c ∧ ls.length ≤ c ∧ Lists w w.heap.size A ls := by
  obtain ⟨vs, h⟩ := h
  have hr := h.row
  obtain ⟨hl, h0 | ⟨g, cap, cur, rfl, hb, hh, hle, _⟩⟩ := h.row
  · obtain ⟨rfl, hn⟩ := h0
    have : ls = [] := List.eq_nil_of_length_eq_zero hn
    subst this
    exact ⟨none, 0, rfl, by simp, [], Reads.none_, fun i hi => by simp at hi⟩
  · refine ⟨_, cap, rfl, hle, vs, Reads.of_own hr, fun i hi => ?_⟩
    obtain ⟨u, hu, ho, _⟩ := h.each i hi
    obtain ⟨A, c, rfl, hc, hr⟩ := own8_form ho
    exact ⟨A, c, hu, hc, hr⟩
theorem OwnL.below {w w' : World} {base : Nat} {v : Value} {ls : List (List UInt8)} (h : OwnL w base v ls) (hb : Below w.heap.size w w') : OwnL w' base v ls := by
  obtain ⟨vs, h⟩ := h
  refine ⟨vs, World.ownsRow.kept h.row (grown_of_below hb none) (by cases v.ownBlock <;> simp), fun i hi => ?_, h.apart⟩
  obtain ⟨u, hu, ho, hne⟩ := h.each i hi
  exact ⟨u, hu, own8_below ho hb, hne⟩
theorem OwnL.base_ {w : World} {base base' : Nat} {v : Value} {ls : List (List UInt8)} (h : OwnL w base v ls) (hb : base' ≤ base) : OwnL w base' v ls := by
  obtain ⟨vs, h⟩ := h
  refine ⟨vs, ?_, fun i hi => ?_, h.apart⟩
  · obtain ⟨hl, h | ⟨g, cap, cur, h1, h2, h3⟩⟩ := h.row
    · exact ⟨hl, .inl h⟩
    · exact ⟨hl, .inr ⟨g, cap, cur, h1, by omega, h3⟩⟩
  · obtain ⟨u, hu, ho, hne⟩ := h.each i hi
    exact ⟨u, hu, own8_base ho hb, hne⟩
theorem oneCell_own8 {w : World} {base : Nat} {v : Value} {l : List UInt8} (h : Own8 w base v l) : v.oneCell' = true := by
  obtain ⟨A, c, rfl, _⟩ := own8_form h
  rfl
theorem below_ownL {a w w' : World} {v : Value} {ls : List (List UInt8)} (h : Below a.heap.size a w) (ho : OwnL w a.heap.size v ls) (hg : w.grownBy w' v.ownBlock) : Below a.heap.size a w' := by
  obtain ⟨vs, ho⟩ := ho
  exact h.grown hg h.size (fun k hk => (World.ownsRow.lt ho.row k hk).1)

/-- 'list = append(list, x)': x lies in a new block of one cell; x was made since wr. -/
theorem appL {ops : Array Oper} {rest : List Oper} {o : Oper} {a : Act} {w wr : World} {Q : Exit → Act → World → Prop} {s x : Operand} {base g c : Nat} {v u : Value} {ls : List (List UInt8)} {l : List UInt8}
    (hgd : o.guard = none) (ho : o.op = .call { callee := .builtin .append, args := #[s, x], argTypes := #[46, 46] })
    (hs : a.eval s = v) (hx : a.eval x = .slice (some ⟨g, 0, none⟩) 1 c) (hown : OwnL wr base v ls) (hcell : w.cell? ⟨g, 0, none⟩ = some u) (hb : Below wr.heap.size wr w) (hu : Own8 w wr.heap.size u l)
    (hbytes : (ls.length + 1) * 24 ≤ 140737488355328) (hbase : base ≤ wr.heap.size)
    (h : ∀ v' w', OwnL w' base v' (ls ++ [l]) → w.grownBy w' v.ownBlock → wpList Tryd.prog ops Q rest (a.put o.dst v') w') : wpList Tryd.prog ops Q (o :: rest) a w := by
  obtain ⟨i0, hi0, hz0, hz1, hz2⟩ := info_parts slinfo
  obtain ⟨vs, hL⟩ := hown.below hb
  obtain ⟨vs0, hL0⟩ := hown
  refine wpList_append_any w hgd s x _ ho base 48 i0 _ 1 24 Tryd.underlying46 hi0 hz0 hz1 hz2 rfl (by omega) v ls.length vs hs hL.row (g + 1) (some ⟨g, 0, none⟩) 1 c [u] hx ?_ ?_ (by simp only [maxLen]; omega) (by omega) (Nat.le_trans hbase hb.size) ?_
  · refine ⟨rfl, fun _ => ⟨_, rfl, by simp, fun j y hy => ?_⟩⟩
    match j, hy with
    | 0, hy => simp at hy; subst hy; exact hcell
  · intro y hy
    simp at hy
    subst hy
    exact oneCell_own8 hu
  · intro v' w' h1 h2 h3
    refine h v' w' ⟨vs ++ [u], ?_, ?_, ?_⟩ h2
    · simpa using h1
    · have hvl : vs.length = ls.length := by have := hL.row.1; omega
      -- the new row's block is the old one, or new
      have hblk : ∀ k, v'.ownBlock = some k → (v.ownBlock = some k ∨ k = w.heap.size) := by
        intro k hk
        rcases h3 with h3 | h3
        · exact .inl (h3 ▸ hk)
        · rw [h3] at hk; injection hk with hk; exact .inr hk.symm
      have hvb : ∀ k, v.ownBlock = some k → k < wr.heap.size := fun k hk => (World.ownsRow.lt hL0.row k hk).2
      intro i hi
      by_cases hil : i < ls.length
      · obtain ⟨y, hy, hoy, hne⟩ := hL.each i hil
        refine ⟨y, by rw [List.getElem?_append_left (by omega)]; exact hy, ?_, ?_⟩
        · rw [List.getElem_append_left hil]
          exact own8_keep hoy h2 hne
        · cases hyb : y.ownBlock with
          | none => exact .inl rfl
          | some k =>
            refine .inr fun e => ?_
            rcases hblk k e.symm with h4 | h4
            · rw [hyb, h4] at hne; simp at hne
            · have := (own8_lt hoy k hyb).2; omega
      · have hie : i = ls.length := by simp at hi; omega
        subst hie
        refine ⟨u, by rw [← hvl]; simp, ?_, ?_⟩
        · simp only [List.getElem_append_right (Nat.le_refl _), Nat.sub_self, List.getElem_cons_zero]
          refine own8_base (own8_keep hu h2 ?_) hbase
          cases hub : u.ownBlock with
          | none => exact .inl rfl
          | some k =>
            refine .inr fun e => ?_
            have h5 := (own8_lt hu k hub).1
            have h6 := hvb k e.symm
            omega
        · cases hub : u.ownBlock with
          | none => exact .inl rfl
          | some k =>
            refine .inr fun e => ?_
            have h5 := own8_lt hu k hub
            rcases hblk k e.symm with h4 | h4
            · have := hvb k h4; omega
            · omega
    · have hvl : vs.length = ls.length := by have := hL.row.1; omega
      intro i j y y' hij hy hy'
      by_cases hj : j < vs.length
      · rw [List.getElem?_append_left (by omega)] at hy
        rw [List.getElem?_append_left hj] at hy'
        exact hL.apart i j y y' hij hy hy'
      · have hj' : j = vs.length := by
          have := (List.getElem?_eq_some_iff.1 hy').1
          simp at this; omega
        subst hj'
        rw [List.getElem?_append_left (by omega)] at hy
        have hy'' : y' = u := by simpa using hy'.symm
        subst hy''
        -- y is old: it was there at wr
        have hw0 : vs0[i]? = vs[i]? := by
          have h1 := hL0.row
          obtain ⟨q1, hq1 | ⟨g1, c1, cu1, e1, _, e2, _, _, _, e3⟩⟩ := hL0.row
          · have : i < ls.length := by omega
            omega
          · obtain ⟨q2, hq2 | ⟨g2, c2, cu2, f1, _, f2, _, _, _, f3⟩⟩ := hL.row
            · have : i < ls.length := by omega
              omega
            · rw [e1] at f1
              cases f1
              have hlt : g1 < wr.heap.size := (Array.getElem?_eq_some_iff.1 e2).1
              rw [hb.block g1 hlt, e2] at f2
              cases f2
              rw [← e3, ← f3]
        obtain ⟨y0, hy0, hoy, _⟩ := hL0.each i (by omega)
        rw [hw0, hy] at hy0
        cases hy0
        cases hyb : y.ownBlock with
        | none => exact .inl rfl
        | some k =>
          refine .inr fun e => ?_
          have h5 := (own8_lt hoy k hyb).2
          have h6 := (own8_lt hu k e.symm).1
          omega

theorem own8_zero (w : World) (base : Nat) (hb : base ≤ w.heap.size) : Own8 (w.alloc (.cells #[] 5)) base (.slice (some ⟨w.heap.size, 0, none⟩) 0 0) [] :=
  ⟨rfl, .inr ⟨w.heap.size, 0, #[], rfl, hb, heap_alloc_new w _, Nat.le_refl _, by simp [maxLen], rfl, rfl⟩⟩
theorem OwnL.len {w : World} {base n c : Nat} {A : Option Addr} {ls : List (List UInt8)} (h : OwnL w base (.slice A n c) ls) : n = ls.length := by
  obtain ⟨A', c', h1, _⟩ := h.lists
  cases h1; rfl
theorem OwnL.reads {w : World} {base n c : Nat} {A : Option Addr} {ls : List (List UInt8)} (h : OwnL w base (.slice A n c) ls) : Lists w w.heap.size A ls := by
  obtain ⟨A', c', h1, _, h2⟩ := h.lists
  cases h1
  exact h2
/-- A slice of bytes made a string. -/
theorem run_str8 {w : World} {B n : Nat} {A : Option Addr} {l : List UInt8} (hr : Reads w B 1 A n (bvs l)) (c : Nat) : (convert 48 9 (.slice A n c)).run Tryd.prog w = .ok (.string ⟨l.toArray⟩) w := by
  have hm : n = l.length := by have := hr.1; rw [bvs_length] at this; omega
  subst hm
  cases A with
  | none =>
    have hn : l = [] := by
      cases l with
      | nil => rfl
      | cons a l => obtain ⟨_, h, _⟩ := hr.2 (by simp); cases h
    subst hn
    rw [run_convert_bytes_nil w 48 5 Tryd.underlying48 Tryd.underlying5 _ _ _ Tryd.underlying9]
    rfl
  | some ad =>
    refine run_convert_bytes_back (P := Tryd.prog) w 48 9 5 ad c l Tryd.underlying48 Tryd.underlying5 Tryd.underlying9 fun j hj => ?_
    obtain ⟨ad', h, _, hc⟩ := hr.2 (by omega)
    cases h
    exact hc j _ (by simp [bvs, bv, List.getElem?_eq_getElem hj])
end Go.Proofs.YtnkcnnmhgomphaaDoor

namespace Go.Proofs.YtnkcnnmhgomphaaDoor
open Go.RowKit

theorem own8_new (w : World) (base : Nat) (hb : base ≤ w.heap.size) (l : List UInt8) (n : Nat) (hn : l.length = n) (hm : n ≤ maxLen) : Own8 (w.alloc (.cells (bvs l).toArray 5)) base (.slice (some ⟨w.heap.size, 0, none⟩) n n) l := by
  subst hn
  refine ⟨by simp [bvs_length], .inr ⟨w.heap.size, l.length, (bvs l).toArray, rfl, hb, heap_alloc_new w _, Nat.le_refl _, hm, by simp [bvs_length], ?_⟩⟩
  simp only [Nat.mul_one]
  rw [List.take_of_length_le (by simp [bvs_length])]

theorem Own8.reads {w : World} {base n c : Nat} {A : Option Addr} {l : List UInt8} (h : Own8 w base (.slice A n c) l) : Reads w w.heap.size 1 A n (bvs l) := by
  obtain ⟨A', c', h1, _, h2⟩ := own8_form h
  cases h1
  exact h2

end Go.Proofs.YtnkcnnmhgomphaaDoor

namespace Go.Proofs.YtnkcnnmhgomphaaDoor
open Go.RowKit

/-- A number of 4 bytes off b. -/
def CutPost (l : List UInt8) (B : Nat) (w : World) (e : Ending) (w' : World) : Prop :=
  (∃ n, w' = w.drewN n) ∧ (if l.length < 4 then e = .returned (.tuple #[.int .i64 (-1), .slice none 0 0]) else
    ∃ A c, e = .returned (.tuple #[.int .i64 (num4 l), .slice A (l.length - 4) c]) ∧ l.length - 4 ≤ c ∧ Reads w B 1 A (l.length - 4) (bvs (l.drop 4)))

theorem CutPost.mk {l : List UInt8} {B n c q : Nat} {w : World} {A : Option Addr} {v : Int} (h4 : 4 ≤ (l.length : Int)) (Ha : Hid (num4 l = n)) (hv : v = (n : Int)) (hc : l.length - 4 ≤ c)
    (hr : Reads w B 1 A (l.length - 4) (bvs l |>.drop (4 * 1))) : CutPost l B w (.returned (.tuple #[.int .i64 v, .slice A (l.length - 4) c])) (w.drewN q) := by
  refine ⟨⟨q, rfl⟩, ?_⟩
  rw [if_neg (by omega)]
  refine ⟨A, c, ?_, hc, ?_⟩
  · rw [hv, ← Ha.out]
  · simpa [bvs, List.map_drop] using hr
set_option maxRecDepth 100000 in
set_option maxHeartbeats 1000000 in
theorem cut_any (A : Option Addr) (c B : Nat) (l : List UInt8) (w : World) (hr : Reads w B 1 A l.length (bvs l)) (hc : l.length ≤ c) (hm : l.length ≤ 140737488355328) :
    Calls Tryd.prog 39 #[.slice A l.length c] w (CutPost l B w) := by
  by_cases h4 : (l.length : Int) < 4
  · go_enter Tryd.func39, Tryd.ntmps39
    go_wp2
    go_ret2
    exact ⟨⟨0, rfl⟩, by rw [if_pos (by omega)]; rfl⟩
  · obtain ⟨b, off, rfl, hb, hcell⟩ := hr.bytes (by omega)
    have hcut := hr.cut (k := 4) (cap := c) (by omega) hc
    obtain ⟨a0, ha0⟩ : ∃ x, x = l.getD 0 0 := ⟨_, rfl⟩
    obtain ⟨a1, ha1⟩ : ∃ x, x = l.getD 1 0 := ⟨_, rfl⟩
    obtain ⟨a2, ha2⟩ : ∃ x, x = l.getD 2 0 := ⟨_, rfl⟩
    obtain ⟨a3, ha3⟩ : ∃ x, x = l.getD 3 0 := ⟨_, rfl⟩
    have hc0 := hcell 0 (by omega)
    have hc1 := hcell 1 (by omega)
    have hc2 := hcell 2 (by omega)
    have hc3 := hcell 3 (by omega)
    rw [← ha0] at hc0
    rw [← ha1] at hc1
    rw [← ha2] at hc2
    rw [← ha3] at hc3
    have Ha := Lib.hid (show num4 l = a0.toNat * 16777216 + a1.toNat * 65536 + a2.toNat * 256 + a3.toNat by rw [ha0, ha1, ha2, ha3]; rfl)
    clear ha0 ha1 ha2 ha3 hcell
    have p0 : (a0.toNat : Int) < 256 := by have := a0.toNat_lt; omega
    have p1 : (a1.toNat : Int) < 256 := by have := a1.toNat_lt; omega
    have p2 : (a2.toNat : Int) < 256 := by have := a2.toNat_lt; omega
    have p3 : (a3.toNat : Int) < 256 := by have := a3.toNat_lt; omega
    have q0 : (0 : Int) < (l.length : Int) := by omega
    have q1 : (1 : Int) < (l.length : Int) := by omega
    have q2 : (2 : Int) < (l.length : Int) := by omega
    have q3 : (3 : Int) < (l.length : Int) := by omega
    have q4 : (4 : Int) ≤ (l.length : Int) := by omega
    simp only [Nat.add_zero] at hc0
    go_enter Tryd.func39, Tryd.ntmps39
    go_wp2
    go_quiet (fail)
    go_wp2
    · have h : c = 4 := by assumption
      go_ret2
      exact CutPost.mk h4 Ha (or_four _ _ _ _ (by omega) (by omega) (by omega) (by omega)) (by omega) (by rw [if_pos h] at hcut; exact hcut)
    · have h : ¬ c = 4 := by assumption
      go_ret2
      exact CutPost.mk h4 Ha (or_four _ _ _ _ (by omega) (by omega) (by omega) (by omega)) (by omega) (by rw [if_neg h] at hcut; simpa [add_none] using hcut)

theorem cut_any' (A : Option Addr) (n c B : Nat) (l : List UInt8) (w : World) (hn : l.length = n) (hr : Reads w B 1 A n (bvs l)) (hc : n ≤ c) (hm : n ≤ 140737488355328) :
    Calls Tryd.prog 39 #[.slice A n c] w (CutPost l B w) := by
  subst hn; exact cut_any A c B l w hr hc hm
/-- 8 bytes, or none. -/
def numE (l : List UInt8) : Int := if l.length = 8 then 0 else 2
def numV (l : List UInt8) : Nat := if l.length = 8 then num4 l * 4294967296 + num4 (l.drop 4) else 0
def ReadNumPost (l : List UInt8) (w : World) (e : Ending) (w' : World) : Prop := e = .returned (.tuple #[.int .u64 (numV l), .int .i64 (numE l)]) ∧ ∃ n, w' = w.drewN n
theorem ReadNumPost.no {l : List UInt8} {w : World} {q : Nat} (h : ¬ l.length = 8) : ReadNumPost l w (.returned (.tuple #[.int .u64 0, .int .i64 2])) (w.drewN q) := ⟨by simp [numV, numE, h], q, rfl⟩
theorem ReadNumPost.yes {l : List UInt8} {w : World} {q : Nat} {n : Int} (h : l.length = 8) (hn : n = ((num4 l * 4294967296 + num4 (l.drop 4) : Nat) : Int)) : ReadNumPost l w (.returned (.tuple #[.int .u64 n, .int .i64 0])) (w.drewN q) := ⟨by rw [hn]; simp [numV, numE, h], q, rfl⟩
theorem CutPost.yes {l : List UInt8} {B : Nat} {w w' : World} {e : Ending} (h : CutPost l B w e w') (hl : 4 ≤ l.length) :
    ∃ A c n, w' = w.drewN n ∧ e = .returned (.tuple #[.int .i64 (num4 l), .slice A (l.length - 4) c]) ∧ l.length - 4 ≤ c ∧ Reads w B 1 A (l.length - 4) (bvs (l.drop 4)) := by
  obtain ⟨⟨n, rfl⟩, h⟩ := h
  rw [if_neg (by omega)] at h
  obtain ⟨A, c, h1, h2, h3⟩ := h
  exact ⟨A, c, n, rfl, h1, h2, h3⟩
theorem CutPost.get {l : List UInt8} {B : Nat} {w w' : World} {e : Ending} (h : CutPost l B w e w') {x m : Nat} (hx : x = num4 l) (hl : m + 4 = l.length) :
    ∃ A c n, w' = w.drewN n ∧ e = .returned (.tuple #[.int .i64 (x : Nat), .slice A m c]) ∧ m ≤ c ∧ Reads w B 1 A m (bvs (l.drop 4)) := by
  obtain ⟨A, c, n, h1, h2, h3, h4⟩ := h.yes (by omega)
  obtain rfl : m = l.length - 4 := by omega
  subst hx
  exact ⟨A, c, n, h1, h2, h3, h4⟩
theorem CutPost.no {l : List UInt8} {B : Nat} {w w' : World} {e : Ending} (h : CutPost l B w e w') (hl : l.length < 4) :
    ∃ n, w' = w.drewN n ∧ e = .returned (.tuple #[.int .i64 (-1), .slice none 0 0]) := by
  obtain ⟨⟨n, rfl⟩, h⟩ := h
  rw [if_pos hl] at h
  exact ⟨n, rfl, h⟩

set_option maxRecDepth 100000 in
set_option maxHeartbeats 1000000 in
theorem ReadNum_any (A : Option Addr) (c B : Nat) (l : List UInt8) (w : World) (hr : Reads w B 1 A l.length (bvs l)) (hc : l.length ≤ c) (hm : l.length ≤ 140737488355328) :
    Calls Tryd.prog 24 #[.slice A l.length c] w (ReadNumPost l w) := by
  by_cases h8 : l.length = 8
  · have hb8 : ((l.length : Int) == 8) = true := by simp [h8]
    have hlt := num4_lt l
    have hlt2 := num4_lt (l.drop 4)
    have H8 := Lib.hid h8
    have g8 : 8 ≤ l.length := by omega
    have g8' : l.length ≤ 8 := by omega
    clear h8
    go_enter Tryd.func24, Tryd.ntmps24
    have tok1 : True := trivial
    go_wp2_with (first
      | (go_at_call 39; have _t := tok1; go_must (refine (cut_any A c B l _ hr hc hm).mono ?_; intro e w1 hp; obtain ⟨A1, c1, n1, rfl, rfl, hc1, hr1⟩ := hp.yes (by omega); clear tok1 hp))
      | (go_at_call 39; go_must (refine (cut_any' A1 (l.length - 4) c1 B (l.drop 4) _ (by simp) (hr1.drewN _) hc1 (by simp; omega)).mono ?_; intro e w2 hp; obtain ⟨A2, c2, n2, rfl, rfl, hc2, hr2⟩ := hp.yes (by simp; omega); clear hp)))
    go_ret2
    exact ReadNumPost.yes H8.out (or_u32 _ _ hlt hlt2)
  · have hb8 : ((l.length : Int) == 8) = false := by simp; omega
    have H8 := Lib.hid h8
    clear h8
    go_enter Tryd.func24, Tryd.ntmps24
    go_wp2
    go_ret2
    exact ReadNumPost.no (q := 0) H8.out
theorem four_any' (base : Nat) (v : Value) (l : List UInt8) (x : Int) (m : Nat) (hx : x = (m : Int)) (hm : m < 4294967296) (w : World) (hown : Own8 w base v l) (hn : l.length + 4 ≤ 140737488355328) (hb : base ≤ w.heap.size) :
    Calls Tryd.prog 49 #[v, .int .i64 x] w fun e w' => ∃ v', e = .returned v' ∧ Own8 w' base v' (l ++ be4 m) ∧ w.grownBy w' v.ownBlock := by
  subst hx; exact four_any base v l m hm w hown hn hb
def be8 (n : Nat) : List UInt8 := be4 (n / 4294967296) ++ be4 (n % 4294967296)
theorem be8_length (n : Nat) : (be8 n).length = 8 := rfl
set_option maxRecDepth 100000 in
set_option maxHeartbeats 1000000 in
theorem Num_any (n : Nat) (hn : n < 18446744073709551616) (w : World) :
    Calls Tryd.prog 40 #[.int .u64 (n : Int)] w fun e w' => ∃ v, e = .returned v ∧ Own8 w' w.heap.size v (be8 n) ∧ Below w.heap.size w w' := by
  have Hn := Lib.hid hn
  have hn' : (n : Int) ≤ 18446744073709551615 := by omega
  clear hn
  go_enter Tryd.func40, Tryd.ntmps40
  have tok1 : True := trivial
  go_wp2_with (first
    | (go_at_call 49; have _t := tok1; go_must (refine (four_any' w.heap.size _ [] _ (n / 4294967296) (by omega) (by have := Hn.out; omega) _ (own8_nil _ _) (by simp) (Nat.le_refl _)).mono ?_; rintro e w1 ⟨v1, rfl, hown1, hg1⟩; have hb1 := below_own8 (Below.refl _ _) (own8_nil _ _) hg1; clear tok1))
    | (go_at_call 49; go_must (refine (four_any' w.heap.size _ _ _ (n % 4294967296) (by omega) (by omega) _ hown1 (by rw [List.length_append, be4_length]; simp) hb1.size).mono ?_; rintro e w2 ⟨v2, rfl, hown2, hg2⟩; have hb2 := below_own8 hb1 hown1 hg2)))
  go_ret
  exact ⟨_, rfl, hown2, hb2⟩

theorem be8_at (n k : Nat) (hk : k < 8) : (be8 n).getD k 0 = UInt8.ofNat (n / 2 ^ (56 - 8 * k)) := by
  have h : ∀ x y : Nat, x % 256 = y % 256 → UInt8.ofNat x = UInt8.ofNat y := by
    intro x y h
    apply UInt8.toNat_inj.1
    simpa using h
  match k, hk with
  | 0, _ => exact h _ _ (by omega)
  | 1, _ => exact h _ _ (by omega)
  | 2, _ => exact h _ _ (by omega)
  | 3, _ => exact h _ _ (by omega)
  | 4, _ => exact h _ _ (by omega)
  | 5, _ => exact h _ _ (by omega)
  | 6, _ => exact h _ _ (by omega)
  | 7, _ => exact h _ _ (by omega)
/-- The bytes after k rounds. -/
def be8k (n k : Nat) : List UInt8 := (be8 n).take k ++ List.replicate (8 - k) 0
theorem be8k_length (n k : Nat) (hk : k ≤ 8) : (be8k n k).length = 8 := by simp [be8k, be8_length]; omega
theorem be8k_all (n : Nat) : be8k n 8 = be8 n := by
  simp only [be8k, Nat.sub_self, List.replicate_zero, List.append_nil]
  exact List.take_of_length_le (by rw [be8_length]; omega)
theorem be8k_set (n k : Nat) (hk : k < 8) : (be8k n k).set k (UInt8.ofNat (n / 2 ^ (56 - 8 * k))) = be8k n (k + 1) := by
  have hl : k < (be8 n).length := by rw [be8_length]; exact hk
  have ht : ((be8 n).take k).length = k := by rw [List.length_take, be8_length]; omega
  unfold be8k
  rw [List.set_append_right _ _ (by omega), ht, Nat.sub_self, show 8 - k = (8 - (k + 1)) + 1 from by omega, List.replicate_succ, List.set_cons_zero, List.take_succ_eq_append_getElem hl]
  have := be8_at n k hk
  rw [List.getD_eq_getElem?_getD, List.getElem?_eq_getElem hl] at this
  simp only [Option.getD_some] at this
  rw [this]
  simp
theorem store8 {w : World} {base g k cap : Nat} {l : List UInt8} {n : Nat} (h : Own8 w base (.slice (some ⟨g, 0, none⟩) n cap) l) (u : UInt8) (x : Int) (hx : x = (u.toNat : Int)) :
    Own8 (w.setCell ⟨g, k, none⟩ (.int .u8 x)) base (.slice (some ⟨g, 0, none⟩) n cap) (l.set k u) ∧ w.grownBy (w.setCell ⟨g, k, none⟩ (.int .u8 x)) (some g) := by
  have hn : n = l.length := by
    obtain ⟨A', c', h1, _⟩ := own8_form h
    cases h1; rfl
  subst hn
  subst hx
  obtain ⟨h1, h2⟩ := World.ownsRow.stored h k (bv u)
  refine ⟨?_, h2⟩
  unfold Own8
  rw [List.length_set, show bvs (l.set k u) = (bvs l).set k (bv u) from by simp [bvs, List.map_set]]
  exact h1
theorem full8 {ops : Array Oper} {rest : List Oper} {o : Oper} {a : Act} {w : World} {Q : Exit → Act → World → Prop} {l c : Operand} {base n : Nat} {kl kc : IntKind} {L C : Int}
    (hgd : o.guard = none) (ho : o.op = Op.makeSlice 48 l c) (hl : a.eval l = .int kl L) (hc : a.eval c = .int kc C) (hL : L = (n : Int)) (hC : C = (n : Int)) (hn : n ≤ 140737488355328) (hb : base ≤ w.heap.size)
    (h : ∀ w', Own8 w' base (.slice (some ⟨w.heap.size, 0, none⟩) n n) (List.replicate n 0) → w.grownBy w' none → wpList Tryd.prog ops Q rest (a.put o.dst (.slice (some ⟨w.heap.size, 0, none⟩) n n)) w') : wpList Tryd.prog ops Q (o :: rest) a w := by
  obtain ⟨i0, hi0, hz0, hz1, hz2⟩ := info_parts u8info
  refine wpList_make_full w hgd l c _ ho base 5 i0 _ 1 Tryd.underlying48 hi0 hz0 hz1 kl kc L C n hl hc hL hC (by rw [hz2]; omega) (by simp only [maxLen]; omega) hb ?_
  intro w' h1 h2
  refine h w' ?_ h2
  unfold Own8
  rw [List.length_replicate]
  have e : (madeCells (Value.int .u8 0).cells (n * 1)).toList = bvs (List.replicate n 0) := by
    simp only [madeCells, bvs, Value.cells, Nat.mul_one]
    apply List.ext_getElem
    · simp
    · intro i h1 h2
      simp [Nat.mod_one, bv]
  rw [← e]
  exact h1
theorem frozen8 {w : World} {base g cap : Nat} {l : List UInt8} {n : Nat} (h : Own8 w base (.slice (some ⟨g, 0, none⟩) n cap) l) (k : Nat) : w.frozen? ⟨g, k, none⟩ = false := by
  obtain ⟨_, ⟨h', _⟩ | ⟨g', cap', cur, h', hb, hg, _⟩⟩ := h
  · simp at h'
  · simp only [Value.slice.injEq, Option.some.injEq, Addr.mk.injEq, and_true] at h'
    obtain ⟨rfl, _⟩ := h'
    simp [World.frozen?, hg]
theorem store8' {w : World} {base g cap k : Nat} {l l' : List UInt8} {n : Nat} (h : Own8 w base (.slice (some ⟨g, 0, none⟩) n cap) l) (u : UInt8) (j : Nat) (hs : l.set k u = l') (_hj : j = k) :
    ∀ x : Int, x = (u.toNat : Int) → Own8 (w.setCell ⟨g, k, none⟩ (.int .u8 x)) base (.slice (some ⟨g, 0, none⟩) n cap) l' :=
  fun x hx => hs ▸ (store8 h u x hx).1
/-- The number of the first k bytes. -/
def numK (l : List UInt8) : Nat → Nat
  | 0 => 0
  | k + 1 => numK l k * 256 + (l.getD k 0).toNat
theorem numK_lt (l : List UInt8) : ∀ k, numK l k < 256 ^ k
  | 0 => by simp [numK]
  | k + 1 => by
    have h1 := numK_lt l k
    have h2 := (l.getD k 0).toNat_lt
    rw [numK, Nat.pow_succ]; omega
theorem numK_eight (l : List UInt8) : numK l 8 = num4 l * 4294967296 + num4 (l.drop 4) := by
  simp only [numK, num4, List.getD_eq_getElem?_getD, List.getElem?_drop, Nat.reduceAdd]
  omega
theorem shl_or (a b : Nat) (ha : a < 72057594037927936) (hb : b < 256) : bits .or .u64 ((a : Int) * 256) (b : Int) = ((a * 256 + b : Nat) : Int) := by
  have := u64_or_nat (a * 256) b (by omega) (by omega)
  rw [show a * 256 ||| b = a * 256 + b from or_add a b 8 (by omega)] at this
  rw [← this]; simp
end Go.Proofs.YtnkcnnmhgomphaaDoor
