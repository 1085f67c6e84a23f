/- The walk of the law WireReads. No conditions. -/
import Derived.Test.YtbpgbihcihnieaaW5
import Derived.Test.YtbpgbihcihnieaaW9
import Derived.Test.YtbpgbihcihnieaaArgs
namespace Go.Proofs.Ytbpgbihcihnieaa
open Go.RowKit
theorem decV_len (l : List UInt8) : (decV l).length ≤ 140737488355328 := by
  rcases dec_cases l with ⟨_, ls, h1, _, h3, _⟩ | ⟨_, h⟩
  · rw [h1]; omega
  · rw [h]; simp
set_option maxRecDepth 100000 in
set_option maxHeartbeats 1000000 in
theorem WireReads_walk (v0 : Value) (l : List UInt8) (w : World) (a0 : ArgB w v0 l) :
    Calls Try.prog 6 #[v0] w fun e w' => e = .returned (.bool true) ∧ Below w.heap.size w w' := by
  obtain ⟨A, c, rfl, hc, hr, hm⟩ := a0
  rw [reach_eq] at hm
  have hd := decV_len l
  go_enter Try.func6, Try.ntmps6
  go_wp2_with (first
    | (go_at_call 12; go_must (refine (awake_any _).mono ?_; rintro e w1 ⟨rfl, hb1⟩))
    | (go_at_call 24; go_must (refine (rDecode_any A c l _ ((hr.below hb1).more hb1.size) hc (by omega)).mono ?_; rintro e w2 ⟨v2, rfl, hown2, hb2'⟩; have hb2 := hb1.trans (hb2'.mono hb1.size); obtain ⟨A2, c2, rfl, _, hl2⟩ := hown2.lists))
    | (go_at_call 25; go_must (refine (Decode_any A c l _ ((hr.below hb2).more hb2.size) hc (by omega)).mono ?_; rintro e w3 ⟨v3, rfl, hown3, hb3'⟩; have hb3 := hb2.trans (hb3'.mono hb2.size); obtain ⟨A3, c3, rfl, _, hl3⟩ := hown3.lists))
    | (go_at_call 26; go_must (refine (SameList_any A3 A2 c3 c2 (decV l) (decV l) _ hl3 ((hl2.below hb3').more hb3'.size) hd hd).mono ?_; rintro e w4 ⟨rfl, hb4'⟩; have hb4 := hb3.trans (hb4'.mono hb3.size))))
  go_ret
  exact ⟨by simp, hb4⟩
end Go.Proofs.Ytbpgbihcihnieaa
