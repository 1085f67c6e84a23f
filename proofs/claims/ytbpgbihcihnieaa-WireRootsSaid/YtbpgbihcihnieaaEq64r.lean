/- Two arrays of 64 bytes are compared (beside Eq32). No conditions. -/
import Derived.Test.YtbpgbihcihnieaaEq32
namespace Go.Proofs.Ytbpgbihcihnieaa
open Go.RowKit
theorem eq64 (d : Nat) (x y : List UInt8) (hx : x.length = 64) (hy : y.length = 64) (w : World) :
    (Op.equalIn (d + 2) 45 (.agg (bvs x).toArray) (.agg (bvs y).toArray)).run Try.prog w = .ok (x == y) w := by
  have hs : (sizeOf 5).run Try.prog w = .ok 1 w := by kernel_rfl
  have h1 := eqRange (xs := x) (ys := y) d w (by omega) 64 0 (by omega)
  rw [Op.equalIn]
  simp only [Sem.run_bind, run_underlying Try.underlying45, Result.andThen_ok, hs]
  simp only [Std.Legacy.Range.forIn_eq_forIn_range', Std.Legacy.Range.size, Nat.sub_zero, Nat.add_sub_cancel, Nat.div_one]
  refine (congrArg (fun r => Result.andThen r _) h1).trans ?_
  simp only [Result.andThen_ok, List.drop_zero]
  by_cases he : x = y
  · rw [if_pos he]; simp [he]
  · rw [if_neg he]; simp [he]
end Go.Proofs.Ytbpgbihcihnieaa
