/- Two arrays of 32 bytes are compared. No conditions. -/
import Derived.Test.YtbpgbihcihnieaaU8
import Derived.Laws.StructEq
namespace Go.Proofs.Ytbpgbihcihnieaa
open Go.RowKit
theorem part8 (xs : Array Value) (i : Nat) (v : Value) (w : World) (h : xs[i]? = some v) : (part 5 xs i).run Try.prog w = .ok v w := by
  have h1 : (isAgg 5).run Try.prog w = .ok false w := by kernel_rfl
  simp [part, Sem.run_bind, h1, h]
theorem eq8 (d : Nat) (a b : UInt8) (w : World) : (Op.equalIn (d + 1) 5 (bv a) (bv b)).run Try.prog w = .ok (a == b) w := by
  unfold bv
  rw [run_equalIn_int w d _ _ _ _ _ Try.underlying5]
  congr 1
  rw [Bool.eq_iff_iff, beq_iff_eq, beq_iff_eq, Int.ofNat_inj]
  exact UInt8.toNat_inj
theorem eqRange {xs ys : List UInt8} (d : Nat) (w : World) (hl : xs.length = ys.length) : ∀ (n k : Nat), k + n = xs.length →
    (forIn (List.range' k n 1) ((none : Option Bool), ()) (fun i (_ : Option Bool × Unit) => do
      if !(← Op.equalIn (d + 1) 5 (← part 5 (bvs xs).toArray (i * 1)) (← part 5 (bvs ys).toArray (i * 1))) then pure (ForInStep.done (some false, ())) else pure (ForInStep.yield (none, ())))).run Try.prog w =
      .ok (if xs.drop k = ys.drop k then none else some false, ()) w := by
  intro n
  induction n with
  | zero =>
    intro k hk
    rw [List.drop_eq_nil_of_le (by omega), List.drop_eq_nil_of_le (by omega)]
    simp
  | succ n ih =>
    intro k hk
    have hx : k < xs.length := by omega
    have hy : k < ys.length := by omega
    rw [List.range'_succ, List.forIn_cons]
    simp only [Sem.run_bind, Nat.mul_one]
    rw [part8 _ k (bv xs[k]) w (by simp [bvs, hx])]
    simp only [Result.andThen_ok]
    rw [part8 _ k (bv ys[k]) w (by simp [bvs, hy])]
    simp only [Result.andThen_ok, eq8]
    rw [List.drop_eq_getElem_cons hx, List.drop_eq_getElem_cons hy]
    by_cases he : xs[k] = ys[k]
    · rw [he]
      simp only [beq_self_eq_true, Bool.not_true, Bool.false_eq_true, if_false, Sem.run_pure, Result.andThen_ok]
      have h1 := ih (k + 1) (by omega)
      simp only [Nat.mul_one] at h1
      rw [h1]
      simp [-List.getElem_cons_drop]
    · simp [he, -List.getElem_cons_drop]
theorem eq32 (d : Nat) (x y : List UInt8) (hx : x.length = 32) (hy : y.length = 32) (w : World) :
    (Op.equalIn (d + 2) 44 (.agg (bvs x).toArray) (.agg (bvs y).toArray)).run Try.prog w = .ok (x == y) w := by
  have hs : (sizeOf 5).run Try.prog w = .ok 1 w := by kernel_rfl
  have h1 := eqRange (xs := x) (ys := y) d w (by omega) 32 0 (by omega)
  rw [Op.equalIn]
  simp only [Sem.run_bind, run_underlying Try.underlying44, Result.andThen_ok, hs]
  simp only [Std.Legacy.Range.forIn_eq_forIn_range', Std.Legacy.Range.size, Nat.sub_zero, Nat.add_sub_cancel, Nat.div_one]
  refine (congrArg (fun r => Result.andThen r _) h1).trans ?_
  simp only [Result.andThen_ok, List.drop_zero]
  by_cases he : x = y
  · rw [if_pos he]; simp [he]
  · rw [if_neg he]; simp [he]
theorem bin32 (x y : List UInt8) (hx : x.length = 32) (hy : y.length = 32) (w : World) :
    (binOp .eql 44 (.agg (bvs x).toArray) (.agg (bvs y).toArray)).run Try.prog w = .ok (.bool (x == y)) w := by
  rw [run_eql_struct, eq32 9998 x y hx hy w]
  rfl
theorem bin32n (x y : List UInt8) (hx : x.length = 32) (hy : y.length = 32) (w : World) :
    (binOp .neq 44 (.agg (bvs x).toArray) (.agg (bvs y).toArray)).run Try.prog w = .ok (.bool (x != y)) w := by
  rw [run_neq_struct, eq32 9998 x y hx hy w]
  rfl
end Go.Proofs.Ytbpgbihcihnieaa
