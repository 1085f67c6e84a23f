/- The walk of the law WireLists: it returns true and writes nothing that was there. No conditions but the form's own reach. -/
import Derived.Test.YtbpgbihcihnieaaW5
namespace Go.Proofs.Ytbpgbihcihnieaa
open Go.RowKit
set_option maxRecDepth 100000 in
set_option maxHeartbeats 1000000 in
theorem WireLists_walk (A : Option Addr) (c : Nat) (ls : List (List UInt8)) (w : World) (hl : Lists w w.heap.size A ls) (hn : ls.length * 24 ≤ 140737488351232) (hm : ∀ l ∈ ls, l.length ≤ 140737488351232) :
    Calls Try.prog 3 #[.slice A ls.length c] w fun e w' => e = .returned (.bool true) ∧ Below w.heap.size w w' := by
  go_enter Try.func3, Try.ntmps3
  go_wp2_with (first
    | (go_at_call 12; go_must (refine (awake_any _).mono ?_; rintro e w1 ⟨rfl, hb1⟩))
    | (go_at_call 13; go_must (refine (rEncode_any _ _ ls _ ((hl.below hb1).more hb1.size) (by omega)).mono ?_; rintro e w2 ⟨v2, rfl, hown2, hb2'⟩; have hb2 := hb1.trans (hb2'.mono hb1.size); obtain ⟨A2, c2, rfl, _, hr2⟩ := own8_form hown2))
    | (go_at_call 15; go_must (refine (copyList_any _ _ ls _ ((hl.below hb2).more hb2.size) hn hm).mono ?_; rintro e w3 ⟨v3, rfl, hown3, hb3'⟩; have hb3 := hb2.trans (hb3'.mono hb2.size); obtain ⟨A3, c3, rfl, _, hl3⟩ := hown3.lists))
    | (go_at_call 14; go_must (refine (Encode_any _ _ ls _ hl3 (by omega)).mono ?_; rintro e w4 ⟨v4, rfl, hown4, hb4'⟩; have hb4 := hb3.trans (hb4'.mono hb3.size); obtain ⟨A4, c4, rfl, _, hr4⟩ := own8_form hown4; have hs4 := run_str8 hr4 c4; have hs2 := run_str8 (hr2.below (hb3'.trans (hb4'.mono hb3'.size))) c2)))
  go_goals
  go_ret
  exact ⟨rfl, hb4⟩
end Go.Proofs.Ytbpgbihcihnieaa
