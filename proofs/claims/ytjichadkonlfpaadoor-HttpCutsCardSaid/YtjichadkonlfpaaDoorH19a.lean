/- Headers of the reference are compared. No conditions. -/
import Derived.Test.YtjichadkonlfpaaDoorH18
import Derived.Laws.Cover3
namespace Go.Proofs.YtjichadkonlfpaaDoor
open Go.RowKit
theorem eqFields_same (d : Nat) (xs : Array Value) (w : World) : ∀ fs : List Field, (∀ p ∈ fs.map (fun f => (f.name, f.type, f.offset)), p.1 ≠ "_" ∧ ∃ v, (part p.2.1 xs p.2.2).run Tryd.prog w = .ok v w ∧ (Op.equalIn d p.2.1 v v).run Tryd.prog w = .ok true w) → (Op.eqFields d xs xs fs).run Tryd.prog w = .ok true w
  | [], _ => by simp [Op.eqFields]
  | f :: fs, h => by
    obtain ⟨h1, v, h2, h3⟩ := h (f.name, f.type, f.offset) (by simp)
    have ih := eqFields_same d xs w fs (fun p hp => h p (by simp only [List.map_cons, List.mem_cons]; exact .inr hp))
    unfold Op.eqFields
    rw [if_pos h1]
    simp only [Sem.run_bind, h2, Result.andThen_ok, h3, Bool.not_true, Bool.false_eq_true, if_false]
    exact ih
theorem partStr (xs : Array Value) (i : Nat) (v : Value) (w : World) (h : xs[i]? = some v) : (part 9 xs i).run Tryd.prog w = .ok v w := by
  have h1 : (isAgg 9).run Tryd.prog w = .ok false w := by kernel_rfl
  simp [part, Sem.run_bind, h1, h]
theorem hdr_fields : ((Tryd.prog).fieldsOf 54).toList.map (fun f => (f.name, f.type, f.offset)) = [("Name", 9, 0), ("Value", 9, 1)] := by kernel_rfl
theorem eq_hdr (a b : ByteArray) (w : World) : (Op.equalIn 10000 54 (.agg #[.string a, .string b]) (.agg #[.string a, .string b])).run Tryd.prog w = .ok true w := by
  rw [run_equalIn_struct w 9999 54 _ _ (by kernel_rfl) (by kernel_rfl)]
  refine eqFields_same 9999 _ w _ ?_
  rw [hdr_fields]
  have es : ∀ s : ByteArray, (Op.equalIn 9999 9 (.string s) (.string s)).run Tryd.prog w = .ok true w := fun s => by
    rw [run_equalIn_string w 9998 _ _ _ Tryd.underlying9]; simp
  intro p hp
  simp only [List.mem_cons, List.not_mem_nil, or_false] at hp
  rcases hp with rfl | rfl
  · exact ⟨by decide, _, partStr _ 0 _ w rfl, es a⟩
  · exact ⟨by decide, _, partStr _ 1 _ w rfl, es b⟩
theorem wpList_same {P : Program} {ops : Array Oper} {rest : List Oper} {o : Oper} {a : Act} {w : World} {Q : Exit → Act → World → Prop} (eq : Bool) (hg : o.guard = none) (t t2 : TypeId) (x y : Operand) (ho : o.op = .binOp (if eq then .eql else .neq) t x y t2) (cs : Array Value) (hx : a.eval x = .agg cs) (hy : a.eval y = .agg cs)
    (hgt : P.eqGuardType P.depth t = false) (he : (Op.equalIn 10000 t (.agg cs) (.agg cs)).run P w = .ok true w) (h : wpList P ops Q rest (a.put o.dst (.bool eq)) w) : wpList P ops Q (o :: rest) a w := by
  refine wpList_plain hg fun _ hK => ?_
  have h2 := hK _ _ h
  unfold Oper.wp execOp
  cases eq
  · simp only [Bool.false_eq_true, if_false] at ho
    simp only [ho, hx, hy, Sem.run_bind, run_eqGuard_agg w _ t x y cs cs hgt, Result.andThen_ok, run_neq_struct, he, Bool.not_true]
    exact h2
  · simp only [if_true] at ho
    simp only [ho, hx, hy, Sem.run_bind, run_eqGuard_agg w _ t x y cs cs hgt, Result.andThen_ok, run_eql_struct, he]
    exact h2
end Go.Proofs.YtjichadkonlfpaaDoor
