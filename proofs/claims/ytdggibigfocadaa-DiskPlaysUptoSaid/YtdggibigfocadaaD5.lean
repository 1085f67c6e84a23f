/- append on a disk's pending writes. No conditions. -/
import Derived.Test.YtdggibigfocadaaD4
namespace Go.Proofs.Ytdggibigfocadaa
open Go.RowKit
theorem cellsP_append (l m : List (Nat × List UInt8)) : cellsP (l ++ m) = cellsP l ++ cellsP m := by simp [cellsP]
theorem cellsP_one (l : List (Nat × List UInt8)) : ∀ u ∈ cellsP l, u.oneCell' = true := by
  intro u hu
  simp only [cellsP, List.mem_flatMap] at hu
  obtain ⟨p, _, hp⟩ := hu
  rcases List.mem_cons.1 hp with rfl | hp
  · rfl
  · exact bvs_one _ u hp
theorem appP {ops : Array Oper} {rest : List Oper} {o : Oper} {a : Act} {w : World} {Q : Exit → Act → World → Prop} {s x : Operand} {base B c : Nat} {v : Value} {l : List (Nat × List UInt8)} {A : Option Addr} {p : Nat × List UInt8}
    (hgd : o.guard = none) (ho : o.op = .call { callee := .builtin .append, args := #[s, x], argTypes := #[51, 51] })
    (hs : a.eval s = v) (hx : a.eval x = .slice A 1 c) (hown : w.ownsRow base 56 65 v l.length (cellsP l)) (hr : Reads w B 65 A 1 (cellsP [p])) (hbytes : (l.length + 1) * 72 ≤ 140737488355328) (hbase : base ≤ w.heap.size)
    (h : ∀ v' w', w'.ownsRow base 56 65 v' (l ++ [p]).length (cellsP (l ++ [p])) → w.grownBy w' v.ownBlock → (v'.ownBlock = v.ownBlock ∨ v'.ownBlock = some w.heap.size) → wpList Try.prog ops Q rest (a.put o.dst v') w') : wpList Try.prog ops Q (o :: rest) a w := by
  obtain ⟨i0, hi0, hz0, hz1, hz2⟩ := info_parts peninfo
  refine wpList_append_any w hgd s x _ ho base 56 i0 _ 65 72 Try.underlying51 hi0 hz0 hz1 hz2 (by rfl) (by omega) v l.length (cellsP l) hs hown B A 1 c (cellsP [p]) hx hr (cellsP_one _) (by simp only [maxLen]; omega) (by omega) hbase ?_
  intro v' w' h1 h2 h3
  refine h v' w' ?_ h2 h3
  rw [List.length_append, cellsP_append]
  exact h1
/-- The behaviour of Write. -/
def DS.write (s : DS) (n : Int) (d : List UInt8) : Int × DS :=
  if 0 ≤ n ∧ n < (s.secs.length : Int) then
    if s.op.1 = true then
      if s.op.2.full = true then (5, s.op.2) else (0, { s.op.2 with pend := s.op.2.pend ++ [(n.toNat, d)] })
    else (9, s.op.2)
  else (1, s)
end Go.Proofs.Ytdggibigfocadaa
