/- The walks of the reference's Encode and of copyList. No conditions. -/
import Derived.Test.YtbpgbihcihnieaaLst
import Derived.Test.YtbpgbihcihnieaaW1
namespace Go.Proofs.Ytbpgbihcihnieaa
open Go.RowKit

theorem own8_new (w : World) (base : Nat) (hb : base ≤ w.heap.size) (l : List UInt8) (n : Nat) (hn : l.length = n) (hm : n ≤ maxLen) : Own8 (w.alloc (.cells (bvs l).toArray 5)) base (.slice (some ⟨w.heap.size, 0, none⟩) n n) l := by
  subst hn
  refine ⟨by simp [bvs_length], .inr ⟨w.heap.size, l.length, (bvs l).toArray, rfl, hb, heap_alloc_new w _, Nat.le_refl _, hm, by simp [bvs_length], ?_⟩⟩
  simp only [Nat.mul_one]
  rw [List.take_of_length_le (by simp [bvs_length])]

set_option maxRecDepth 100000 in
set_option maxHeartbeats 400000 in
theorem rfour_any (m : Nat) (hm : m < 4294967296) (w : World) :
    Calls Try.prog 43 #[.int .i64 (m : Int)] w fun e w' => ∃ g c, e = .returned (.slice (some ⟨g, 0, none⟩) 4 c) ∧ Own8 w' w.heap.size (.slice (some ⟨g, 0, none⟩) 4 c) (be4 m) ∧ Below w.heap.size w w' := by
  have hc := be4_cells m hm
  have H := Lib.hid hc; clear hc
  go_enter Try.func43, Try.ntmps43
  go_wp2
  go_ret
  refine ⟨_, _, rfl, ?_, (Below.refl _ _).alloc (Nat.le_refl _) _⟩
  have := own8_new w w.heap.size (Nat.le_refl _) (be4 m) 4 rfl (by simp [maxLen])
  rw [H.out] at this
  exact this
theorem Own8.reads {w : World} {base n c : Nat} {A : Option Addr} {l : List UInt8} (h : Own8 w base (.slice A n c) l) : Reads w w.heap.size 1 A n (bvs l) := by
  obtain ⟨A', c', h1, _, h2⟩ := own8_form h
  cases h1
  exact h2

set_option maxRecDepth 100000 in
set_option maxHeartbeats 1000000 in
theorem rEncode_any (A : Option Addr) (c : Nat) (ls : List (List UInt8)) (w : World) (hl : Lists w w.heap.size A ls) (hn : ls.length ≤ 140737488355328) :
    Calls Try.prog 13 #[.slice A ls.length c] w (EncPost ls w) := by
  go_enter Try.func13, Try.ntmps13
  go_wp2
  go_loop [4, 10] (fun s i => ∃ k : Nat, k ≤ ls.length ∧ i = .int .i64 k ∧ s = .int .i64 ((4 + bulk (ls.take k) : Nat) : Int) ∧ ((4 + bulk (ls.take k) : Nat) : Int) ≤ 1048576) (fun _ i => ls.length - (intOf i).toNat)
  case atStart => exact ⟨0, Nat.zero_le _, rfl, rfl, by simp [bulk]⟩
  case round =>
    obtain ⟨k, hk, rfl, rfl, hs⟩ := hrel
    by_cases hlt : k < ls.length
    · obtain ⟨l, b, off, A', c', hlk, rfl, hb, hcell, hc', hr⟩ := hl.at_ k hlt
      have hts := Lib.hid (bulk_take_succ ls k hlt)
      have hle := Lib.hid (bulk_take_le ls (k + 1))
      obtain ⟨z, hz⟩ : ∃ z, z = 4 + bulk (ls.take k) := ⟨_, rfl⟩
      rw [← hz] at hs ⊢
      have Hz := Lib.hid hz; clear hz
      by_cases ho1 : 1048576 < (l.length : Int)
      · go_wp2
        go_ret2
        exact EncPost.no (encOK_no2 (by have := hts.out; have := hle.out; have := Hz.out; rw [hlk.out] at *; omega)) (Below.refl _ _)
      · by_cases hov : 1048576 < (z : Int) + 4 + (l.length : Int)
        · go_wp2
          go_ret2
          exact EncPost.no (encOK_no2 (by have := hts.out; have := hle.out; have := Hz.out; rw [hlk.out] at *; omega)) (Below.refl _ _)
        · go_wp2
          go_round
          case rel => exact ⟨k + 1, by omega, by go_num, by rw [hts.out, hlk.out]; have := Hz.out; go_num, by rw [hts.out, hlk.out]; have := Hz.out; omega⟩
          case measure => simp [intOf]; omega
    · obtain rfl : k = ls.length := by omega
      rw [List.take_length] at hs ⊢
      by_cases h1 : 65536 < (ls.length : Int)
      · go_wp2
        go_ret2
        exact EncPost.no (encOK_no1 (by omega)) (Below.refl _ _)
      · have hE := Lib.hid (encOK_of (l := ls) (by omega) (by omega))
        go_wp2_with (first
          | (go_at_call 43; go_must (refine (rfour_any ls.length (by omega) _).mono ?_); rintro e w2 ⟨g2, c2, rfl, hown2, hb2⟩))
        go_loopw [6, 42] (fun v i wr => ∃ k : Nat, k ≤ ls.length ∧ i = .int .i64 k ∧ Own8 wr w.heap.size v (be4 ls.length ++ members (ls.take k)) ∧ Below w.heap.size w wr) (fun _ i _ => ls.length - (intOf i).toNat)
        case atStart => exact ⟨0, Nat.zero_le _, rfl, by simpa [members] using hown2, hb2⟩
        case round =>
          obtain ⟨k, hk, rfl, hown, hbw⟩ := hrel
          by_cases hlt : k < ls.length
          · obtain ⟨l, b, off, A', c', hlk, rfl, hb, hcell, hc', hr⟩ := hl.at_b hbw k hlt
            have hts := Lib.hid (members_take_succ ls k hlt)
            have hle := bulk_take_le ls (k + 1)
            have hbs := bulk_take_succ ls k hlt
            have hml : (be4 ls.length ++ members (ls.take k)).length = 4 + bulk (ls.take k) := by rw [List.length_append, be4_length, members_length]
            rw [hlk.out] at hbs
            have hsz : (be4 ls.length ++ members (ls.take k)).length + 4 + l.length ≤ 1048576 := by omega
            have Hsz := Lib.hid hsz
            clear hle hbs hml hsz hs
            have tok1 : True := trivial
            go_wp2_with (first
              | (go_at_call 43; go_must (refine (rfour_any l.length (by have := Hsz.out; omega) _).mono ?_); rintro e w3 ⟨g3, c3, rfl, hown3, hb3⟩; have hcell3 := (hb3.cell (p := ⟨b, off + k, none⟩) (Nat.lt_of_lt_of_le hb hbw.size)).trans hcell)
              | (at_builtin; have _t := tok1; go_must (refine app8 rfl rfl rfl rfl (own8_below hown hb3) hown3.reads (by have := Hsz.out; omega) (Nat.le_trans hbw.size hb3.size) ?_); intro v4 w4 hown4 hg4 hx4; have hb4 := below_own8 (hbw.trans (hb3.mono hbw.size)) (own8_below hown hb3) hg4; have hcell4 := (hb4.cell (p := ⟨b, off + k, none⟩) hb).trans ((hbw.cell (p := ⟨b, off + k, none⟩) hb).symm.trans hcell); clear tok1)
              | (at_builtin; go_must (refine app8 rfl rfl rfl rfl hown4 (hr.below hb4) (by have := Hsz.out; rw [List.length_append, be4_length]; omega) hb4.size ?_); intro v5 w5 hown5 hg5 hx5; have hb5 := below_own8 hb4 hown4 hg5))
            go_roundw
            case rel => exact ⟨k + 1, by omega, by go_num, by rw [hts.out, hlk.out]; simpa using hown5, hb5⟩
            case measure => simp [intOf]; omega
          · obtain rfl : k = ls.length := by omega
            go_wp2
            go_ret2
            exact EncPost.yes hE.out (by simpa using hown) hbw
end Go.Proofs.Ytbpgbihcihnieaa
