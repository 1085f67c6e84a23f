/- The reference's parts. No conditions. -/
import Derived.Test.YtbpgbihcihnieaaV2
namespace Go.Proofs.Ytbpgbihcihnieaa
open Go.RowKit
def PartsPost (l word : List UInt8) (n : Nat) (w : World) (e : Ending) (w' : World) : Prop := ∃ v, e = .returned (.tuple #[v, .bool (openV l word n).isSome]) ∧ OwnL w' w.heap.size v (decV l) ∧ Below w.heap.size w w'
theorem openV_bad {l word : List UInt8} {n : Nat} (h : ¬ decE l = 0) : openV l word n = none := by
  unfold openV
  rw [if_neg (fun h' => h h'.1)]
theorem openV_len {l word : List UInt8} {n : Nat} (h : ¬ (decV l).length = n + 1) : openV l word n = none := by
  unfold openV
  rw [if_neg (fun h' => h h'.2.1)]
theorem openV_word {l word : List UInt8} {n : Nat} (h : ¬ (decV l).getD 0 [] = word) : openV l word n = none := by
  unfold openV
  rw [if_neg (fun h' => h h'.2.2)]
theorem openV_yes {l word : List UInt8} {n : Nat} (h0 : decE l = 0) (h1 : (decV l).length = n + 1) (h : (decV l).getD 0 [] = word) : openV l word n = some (decV l).tail := by
  unfold openV
  rw [if_pos ⟨h0, h1, h⟩]
set_option maxRecDepth 100000 in
set_option maxHeartbeats 1000000 in
theorem rparts_any (A : Option Addr) (c n : Nat) (l word : List UInt8) (X : Int) (hX : X = ((n + 1 : Nat) : Int)) (hn : n < 100) (w : World) (hr : Reads w w.heap.size 1 A l.length (bvs l)) (hc : l.length ≤ c) (hm : l.length ≤ 140737488355328) :
    Calls Try.prog 54 #[.slice A l.length c, .string ⟨word.toArray⟩, .int .i64 X] w (PartsPost l word n w) := by
  obtain ⟨N, hN⟩ : ∃ N, N = n + 1 := ⟨_, rfl⟩
  rw [← hN] at hX
  subst hX
  have HN := Lib.hid hN
  by_cases hE : decE l = 0
  · obtain ⟨ls, hls⟩ : ∃ ls, decV l = ls := ⟨_, rfl⟩
    have Hls := Lib.hid hls
    have HE := Lib.hid hE
    have HD : Hid (Calls Try.prog 24 #[.slice A l.length c] w fun e w1 => ∃ v, e = .returned (.tuple #[v, .int .i64 0]) ∧ OwnL w1 w.heap.size v ls ∧ Below w.heap.size w w1) := (rDecode_any A c l w hr hc hm).mono (by
      rintro e w1 ⟨v, rfl, ho, hb⟩
      rw [hE]
      rw [hls] at ho
      exact ⟨v, rfl, ho, hb⟩)
    clear hr hc hm hE hls hN
    by_cases hlen : ((ls.length : Int) == (N : Int)) = true
    · have hL : ls.length = N := by have := eq_of_beq hlen; omega
      have HL := Lib.hid hL
      have h0 : 0 < ls.length := by have := HN.out; omega
      have H0 := Lib.hid h0
      clear hL
      obtain ⟨x, hx⟩ : ∃ x, ls[0] = x := ⟨_, rfl⟩
      have Hx : Hid (ls.getD 0 [] = x) := by show _ = _; rw [List.getD_eq_getElem?_getD, List.getElem?_eq_getElem h0, ← hx]; rfl
      have hx' := Lib.hid hx
      clear hx
      by_cases he : x = word
      · subst he
        go_enter Try.func54, Try.ntmps54
        go_wp2_with (go_at_call 24; go_must (refine HD.out.mono ?_; rintro e w1 ⟨v, rfl, ho, hb⟩; obtain ⟨A1, c1, rfl, hc1, hl1⟩ := ho.lists; have HO := Lib.hid ho; have HB := Lib.hid hb; obtain ⟨x2, b, off, A', c', hlk, rfl, hbl, hcell, hc', hr'⟩ := hl1.at_ 0 H0.out; obtain rfl : x2 = x := hlk.out.symm.trans hx'.out; rw [Nat.add_zero] at hcell; have hs := fun q => run_str8 (hr'.drewN q) c'; clear ho hb hl1 hlk hc' hc1))
        go_quiet (fail)
        go_wp2
        go_ret2
        exact ⟨_, by rw [openV_yes HE.out (by rw [Hls.out, HL.out, HN.out]) (by rw [Hls.out, Hx.out])]; rfl, by rw [Hls.out]; exact HO.out.drewN _, below_drewN HB.out _⟩
      · have hne : (x == word) = false := by simp [he]
        go_enter Try.func54, Try.ntmps54
        go_wp2_with (go_at_call 24; go_must (refine HD.out.mono ?_; rintro e w1 ⟨v, rfl, ho, hb⟩; obtain ⟨A1, c1, rfl, hc1, hl1⟩ := ho.lists; have HO := Lib.hid ho; have HB := Lib.hid hb; obtain ⟨x2, b, off, A', c', hlk, rfl, hbl, hcell, hc', hr'⟩ := hl1.at_ 0 H0.out; obtain rfl : x2 = x := hlk.out.symm.trans hx'.out; rw [Nat.add_zero] at hcell; have hs := fun q => run_str8 (hr'.drewN q) c'; clear ho hb hl1 hlk hc' hc1))
        go_quiet (fail)
        go_wp2
        go_ret2
        exact ⟨_, by rw [openV_word (by rw [Hls.out, Hx.out]; exact he)]; rfl, by rw [Hls.out]; exact HO.out.drewN _, below_drewN HB.out _⟩
    · have hlen' : ((ls.length : Int) == (N : Int)) = false := by simpa using hlen
      clear hlen
      go_enter Try.func54, Try.ntmps54
      go_wp2_with (go_at_call 24; go_must (refine HD.out.mono ?_; rintro e w1 ⟨v, rfl, ho, hb⟩; obtain ⟨A1, c1, rfl, hc1, hl1⟩ := ho.lists; have HO := Lib.hid ho; have HB := Lib.hid hb; clear ho hb hl1 hc1))
      go_quiet (fail)
      go_wp2
      go_ret2
      exact ⟨_, by rw [openV_len (by rw [Hls.out]; have h_ := HN.out; intro h2_; rw [h2_, h_] at hlen'; simp at hlen')]; rfl, by rw [Hls.out]; exact HO.out.drewN _, below_drewN HB.out _⟩
  · have hX : ∃ x : Int, decE l = x ∧ ((x == 0) = false) ∧ decV l = [] := by
      rcases dec_cases l with h | ⟨h | h, h'⟩
      · exact absurd h.1 hE
      · exact ⟨2, h, rfl, h'⟩
      · exact ⟨6, h, rfl, h'⟩
    obtain ⟨x, hx, hx0, hv0⟩ := hX
    have HE := Lib.hid hE
    have HD : Hid (Calls Try.prog 24 #[.slice A l.length c] w fun e w1 => ∃ v, e = .returned (.tuple #[v, .int .i64 x]) ∧ OwnL w1 w.heap.size v (decV l) ∧ Below w.heap.size w w1) := (rDecode_any A c l w hr hc hm).mono (by
      rintro e w1 ⟨v, rfl, ho, hb⟩
      rw [hx]
      exact ⟨v, rfl, ho, hb⟩)
    clear hr hc hm hE hN hx hv0
    go_enter Try.func54, Try.ntmps54
    go_wp2_with (go_at_call 24; go_must (refine HD.out.mono ?_; rintro e w1 ⟨v, rfl, ho, hb⟩; obtain ⟨A1, c1, rfl, hc1, hl1⟩ := ho.lists; have HO := Lib.hid ho; have HB := Lib.hid hb; clear ho hb hl1 hc1))
    go_quiet (fail)
    go_wp2
    go_ret2
    exact ⟨_, by rw [openV_bad HE.out]; rfl, HO.out.drewN _, below_drewN HB.out _⟩
end Go.Proofs.Ytbpgbihcihnieaa
