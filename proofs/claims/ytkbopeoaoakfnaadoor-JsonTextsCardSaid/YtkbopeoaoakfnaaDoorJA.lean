/- json's law: awake; AsText, AsList. No conditions. -/
import Derived.Test.YtkbopeoaoakfnaaDoorJ13
import Derived.Test.YtkbopeoaoakfnaaDoorJW3
namespace Go.Proofs.YtkbopeoaoakfnaaDoor
open Go.RowKit
theorem awake_parse : parseP [91, 49, 44, 34, 97, 34, 93] = (.list [.num [49], .text [97]], 0, 0) := by kernel_rfl
theorem awake_print : prt (.list [.num [49], .text [97]]) = [91, 49, 44, 34, 97, 34, 93] := by kernel_rfl
set_option maxRecDepth 100000 in
set_option maxHeartbeats 800000 in
theorem awake_any (w : World) : Calls Tryd.prog 10 #[] w fun e w' => e = .returned (.bool true) ∧ Below w.heap.size w w' := by
  go_enter Tryd.func10, Tryd.ntmps10
  go_wp2_with (first
    | (go_at_call 16; go_must (have hp := parse_any w [91, 49, 44, 34, 97, 34, 93]; unfold ParsePost at hp; rw [awake_parse] at hp; refine hp.mono ?_; clear hp; rintro e w1 ⟨v, rfl, hb1, hv⟩; obtain ⟨A, c, us, hvv, hIs⟩ : ∃ A c, ∃ us : List Value, v = .iface 49 (.slice A 2 c) ∧ us.length = 2 := (by cases hv; exact ⟨_, _, _, rfl, by assumption⟩); subst hvv; have HV := Lib.hid hv; have HB1 := Lib.hid hb1; clear hv hb1 hIs; have f1 := fun w => is_List (.slice A 2 c) w))
    | (go_at_call 12; go_must (have hp := print_any HV.out (fun k hk => hk.2) (by rw [awake_print]; decide); rw [awake_print] at hp; refine hp.mono ?_; clear hp; rintro e w2 ⟨rfl, hb2⟩)))
  go_ret
  exact ⟨rfl, HB1.out.trans (hb2.mono HB1.out.size)⟩
end Go.Proofs.YtkbopeoaoakfnaaDoor
