/-
  DERIVED. GIVEN WITH THE SEED: THE PROGRAM's TIES (one call each: nine closed facts by the kernel) AND EACH ROW's TIE, after the 31st guide's Derived/Test/Toyas{Tie, Card}.lean. No idea stands in it: it is a product of the set-up. Laid BY PROGRAM, IN A SANDBOX (cutbox-door.mjs). By AI agents, Wed Nov 11 2026. No macro, syntax, notation, axiom, sorry.
-/
import Derived.Test.YtbcpmnnlhdgbhaaGreatDoorRows
import Derived.LaidByTextLater
import Derived.SevenTiedAt
import Derived.LaidSub
import Derived.LaidOnce
namespace Go.Proofs.YtbcpmnnlhdgbhaaGreatDoor
open Go
set_option maxRecDepth 100000
theorem seatTie1 : Tryz.prog.laidByTextLater [("beacon/scalar.order", Rows.laid_beacon_scalar_order), ("beacon/sha2.k256", Rows.laid_beacon_sha2_k256), ("beacon/sha2.k512", Rows.laid_beacon_sha2_k512)] [.wider, .data, .data] true :=
  Program.laidByTextLater_by_one 24 8 81 (by kernel_rfl) (by kernel_rfl) (by kernel_rfl) (by kernel_rfl) (by kernel_rfl) (by kernel_rfl) (fun _ _ => by kernel_rfl)
theorem noOwnUnsafe : Tryz.pinned.checked.prog.headLifts.contains "ownunsafe" = false := by kernel_rfl
theorem tie : Tryz.prog.laidByTextLater [("beacon/scalar.order", Rows.laid_beacon_scalar_order), ("beacon/sha2.k256", Rows.laid_beacon_sha2_k256), ("beacon/sha2.k512", Rows.laid_beacon_sha2_k512)] [.wider, .data, .data] true :=
  Program.laidByTextLater.sub seatTie1 ["beacon/scalar.order", "beacon/sha2.k256", "beacon/sha2.k512"] (by kernel_rfl) (by kernel_rfl)
theorem publisherNil_row_tie : Rows.publisherNilRow.laidByTextAt .later Tryz.pinned [.wider, .data, .data] true :=
  OpenClaim.laidByTextAt_later rfl rfl tie noOwnUnsafe
theorem publisherNilUpto_row_tie : Rows.publisherNilUptoRow.laidByTextAt .later Tryz.pinned [.wider, .data, .data] true :=
  OpenClaim.laidByTextAt_later rfl rfl tie noOwnUnsafe
end Go.Proofs.YtbcpmnnlhdgbhaaGreatDoor
