/- The reference's way to fill a bucket gives what the program's gives. No conditions. -/
import Derived.Test.YtkbbelbcjokncaaR2
namespace Go.Proofs.Ytkbbelbcjokncaa
open Go.RowKit
def apartV (d : Int) : Int := if 4294967296 < d then 4294967296 else d
theorem ref_fill {most each tok d : Int} (ht : 0 ≤ tok ∧ tok ≤ most) (hm : most ≤ 2147483648) (he : 0 < each) :
    (if (most - tok + each - 1).tdiv each ≤ apartV d then most else tok + each * apartV d) = min most (tok + each * d) := by
  have hq : (most - tok + each - 1).tdiv each = (most - tok + each - 1) / each := Int.tdiv_eq_ediv_of_nonneg (by omega)
  rw [hq]
  have key : ∀ a : Int, (most - tok + each - 1) / each ≤ a ↔ most - tok ≤ each * a := by
    intro a
    rw [Int.ediv_le_iff_le_mul he]
    constructor
    · intro h
      have : a * each = each * a := Int.mul_comm _ _
      omega
    · intro h
      have : a * each = each * a := Int.mul_comm _ _
      omega
  unfold apartV
  by_cases h32 : 4294967296 < d
  · rw [if_pos h32]
    have h1 : most - tok ≤ each * 4294967296 := by
      have : 1 * 4294967296 ≤ each * 4294967296 := Int.mul_le_mul_of_nonneg_right (by omega) (by omega)
      omega
    rw [if_pos ((key _).2 h1)]
    have h2 : each * 4294967296 ≤ each * d := Int.mul_le_mul_of_nonneg_left (by omega) (by omega)
    omega
  · rw [if_neg h32]
    by_cases hle : (most - tok + each - 1) / each ≤ d
    · rw [if_pos hle]
      have := (key _).1 hle
      omega
    · rw [if_neg hle]
      have : ¬ most - tok ≤ each * d := fun h => hle ((key _).2 h)
      omega
end Go.Proofs.Ytkbbelbcjokncaa
