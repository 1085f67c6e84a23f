import Derived.Test.YtbpgbihcihnieaaU8
import Derived.Deep.DeepMust
namespace Go.Proofs.Ytbpgbihcihnieaa
open Go.RowKit

set_option maxRecDepth 100000 in
set_option maxHeartbeats 400000 in
theorem four_any (base : Nat) (v : Value) (l : List UInt8) (m : Nat) (hm : m < 4294967296) (w : World) (hown : Own8 w base v l) (hn : l.length + 4 ≤ 140737488355328) (hb : base ≤ w.heap.size) :
    Calls Try.prog 44 #[v, .int .i64 (m : Int)] w fun e w' => ∃ v', e = .returned v' ∧ Own8 w' base v' (l ++ be4 m) ∧ w.grownBy w' v.ownBlock := by
  have hc := be4_cells m hm
  have H := Lib.hid hc; clear hc
  go_enter Try.func44, Try.ntmps44
  go_wp2_with (at_builtin; go_must (refine app8 rfl rfl rfl rfl (hown.alloc _) (news := be4 m) (by rw [H.out]; exact reads_new _ _ _ _ rfl) (by omega) (by simp; omega) ?_); intro v1 w1 hown1 hg1 hb1)
  go_ret
  refine ⟨_, rfl, hown1, ?_⟩
  exact (World.grownBy_alloc w _ _).trans hg1

def EncPost (ls : List (List UInt8)) (w : World) (e : Ending) (w' : World) : Prop :=
  ∃ v, e = .returned (.tuple #[v, .int .i64 (encE ls)]) ∧ Own8 w' w.heap.size v (encB ls) ∧ Below w.heap.size w w'

theorem EncPost.no {ls : List (List UInt8)} {w w' : World} (h : encOK ls = false) (hb : Below w.heap.size w w') : EncPost ls w (.returned (.tuple #[.slice none 0 0, .int .i64 6])) w' :=
  ⟨_, by rw [encE_no h], by rw [encB_no h]; exact own8_nil _ _, hb⟩
theorem EncPost.yes {ls : List (List UInt8)} {w w' : World} {v : Value} (h : encOK ls = true) (ho : Own8 w' w.heap.size v (be4 ls.length ++ members ls)) (hb : Below w.heap.size w w') : EncPost ls w (.returned (.tuple #[v, .int .i64 0])) w' :=
  ⟨_, by rw [encE_ok h], by rw [encB_ok h]; exact ho, hb⟩

set_option maxRecDepth 100000 in
set_option maxHeartbeats 1000000 in
theorem Encode_any (A : Option Addr) (c : Nat) (ls : List (List UInt8)) (w : World) (hl : Lists w w.heap.size A ls) (hn : ls.length ≤ 140737488355328) :
    Calls Try.prog 14 #[.slice A ls.length c] w (EncPost ls w) := by
  by_cases h1 : 65536 < ls.length
  · go_enter Try.func14, Try.ntmps14
    go_wp2
    go_ret2
    exact EncPost.no (encOK_no1 h1) (Below.refl _ _)
  · go_enter Try.func14, Try.ntmps14
    go_wp2
    go_loop [4, 15] (fun s i => ∃ k : Nat, k ≤ ls.length ∧ i = .int .i64 k ∧ s = .int .i64 ((4 + bulk (ls.take k) : Nat) : Int) ∧ ((4 + bulk (ls.take k) : Nat) : Int) ≤ 1048576) (fun _ i => ls.length - (intOf i).toNat)
    case atStart => exact ⟨0, Nat.zero_le _, rfl, rfl, by simp [bulk]⟩
    case round =>
      obtain ⟨k, hk, rfl, rfl, hs⟩ := hrel
      by_cases hlt : k < ls.length
      · obtain ⟨l, b, off, A', c', hlk, rfl, hb, hcell, hc', hr⟩ := hl.at_ k hlt
        have hts := Lib.hid (bulk_take_succ ls k hlt)
        have hle := Lib.hid (bulk_take_le ls (k + 1))
        obtain ⟨z, hz⟩ : ∃ z, z = 4 + bulk (ls.take k) := ⟨_, rfl⟩
        rw [← hz] at hs ⊢
        have Hz := Lib.hid hz; clear hz
        by_cases hov : 1048576 - ((z : Int) + 4) < (l.length : Int)
        · go_wp2
          go_ret2
          exact EncPost.no (encOK_no2 (by have := hts.out; have := hle.out; have := Hz.out; rw [hlk.out] at *; omega)) (Below.refl _ _)
        · go_wp2
          go_round
          case rel => exact ⟨k + 1, by omega, by go_num, by rw [hts.out, hlk.out]; have := Hz.out; go_num, by rw [hts.out, hlk.out]; have := Hz.out; omega⟩
          case measure => simp [intOf]; omega
      · obtain rfl : k = ls.length := by omega
        rw [List.take_length] at hs ⊢
        have hE := Lib.hid (encOK_of (l := ls) (by omega) (by omega))
        go_wp2_with (first
          | (at_make; refine make8 rfl rfl rfl rfl (n := 4 + bulk ls) (by simp) (by omega) (Nat.le_refl _) ?_; intro w1 hown1 hg1; have hb1 := below_none (Below.refl _ _) hg1)
          | (go_at_call 44; refine (four_any w.heap.size _ [] ls.length (by omega) _ hown1 (by simp) hb1.size).mono ?_; rintro e w2 ⟨v2, rfl, hown2, hg2⟩; have hb2 := below_own8 hb1 hown1 hg2; clear hg1 hown1 hg2))
        go_loopw [7, 38] (fun v i wr => ∃ k : Nat, k ≤ ls.length ∧ i = .int .i64 k ∧ Own8 wr w.heap.size v (be4 ls.length ++ members (ls.take k)) ∧ Below w.heap.size w wr) (fun _ i _ => ls.length - (intOf i).toNat)
        case atStart => exact ⟨0, Nat.zero_le _, rfl, by simpa [members] using hown2, hb2⟩
        case round =>
          obtain ⟨k, hk, rfl, hown, hbw⟩ := hrel
          by_cases hlt : k < ls.length
          · obtain ⟨l, b, off, A', c', hlk, rfl, hb, hcell, hc', hr⟩ := hl.at_b hbw k hlt
            have hts := Lib.hid (members_take_succ ls k hlt)
            have hle := bulk_take_le ls (k + 1)
            have hbs := bulk_take_succ ls k hlt
            have hml : (be4 ls.length ++ members (ls.take k)).length = 4 + bulk (ls.take k) := by rw [List.length_append, be4_length, members_length]
            rw [hlk.out] at hbs
            have hsz : (be4 ls.length ++ members (ls.take k)).length + 4 + l.length ≤ 1048576 := by omega
            have Hsz := Lib.hid hsz
            clear hle hbs hml hsz hs
            go_wp2_with (first
              | (go_at_call 44; refine (four_any w.heap.size _ _ l.length (by have := Hsz.out; omega) _ hown (by have := Hsz.out; omega) hbw.size).mono ?_; rintro e w3 ⟨v3, rfl, hown3, hg3⟩; have hb3 := below_own8 hbw hown hg3; clear hg3)
              | (at_builtin; go_must (refine app8 rfl rfl rfl rfl hown3 (hr.below hb3) (by have := Hsz.out; rw [List.length_append, be4_length]; omega) hb3.size ?_); intro v4 w4 hown4 hg4 hx4; have hb4 := below_own8 hb3 hown3 hg4))
            go_roundw
            case rel => exact ⟨k + 1, by omega, by go_num, by rw [hts.out, hlk.out]; simpa using hown4, hb4⟩
            case measure => simp [intOf]; omega
          · obtain rfl : k = ls.length := by omega
            go_wp2
            go_ret2
            exact EncPost.yes hE.out (by simpa using hown) hbw
end Go.Proofs.Ytbpgbihcihnieaa
