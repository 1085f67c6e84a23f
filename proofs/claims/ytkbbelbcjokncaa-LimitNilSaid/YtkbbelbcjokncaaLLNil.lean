/- The law LimitNil. No conditions. -/
import Derived.Test.YtkbbelbcjokncaaT5
import Derived.Test.YtkbbelbcjokncaaArgI64
import Derived.Test.YtkbbelbcjokncaaArgStr
namespace Go.Proofs.Ytkbbelbcjokncaa
open Go.RowKit
set_option maxRecDepth 100000 in
set_option maxHeartbeats 1000000 in
theorem LimitNil_any (v u : Value) (w : World) : Calls Try.prog 7 #[v, u] w fun e w' => e = .returned (.bool true) ∧ Below w.heap.size w w' := by
  go_enter Try.func7, Try.ntmps7
  go_wp2_with (first
    | (go_at_call 8; go_must (refine (awake_any _).mono ?_; rintro e w0 ⟨rfl, hb0⟩))
    | (go_at_call 10; go_must (refine (Take_nil _ _ _).mono ?_; rintro e w1 ⟨rfl, rfl⟩))
    | (go_at_call 11; go_must (refine (Tokens_nil _ _).mono ?_; rintro e w1 ⟨rfl, rfl⟩))
    | (go_at_call 14; go_must (refine (Size_nil _).mono ?_; rintro e w1 ⟨rfl, rfl⟩)))
  go_ret
  exact ⟨rfl, hb0⟩
theorem LimitNil_walk (v0 v1 : Value) (s : ByteArray) (n : Int) (w : World) (_ : ArgS v0 s) (_ : ArgI64 v1 n) : Calls Try.prog 7 #[v0, v1] w fun e w' => e = .returned (.bool true) ∧ Below w.heap.size w w' := LimitNil_any v0 v1 w
end Go.Proofs.Ytkbbelbcjokncaa
