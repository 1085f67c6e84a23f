/- What DiskFull's calls answer, in plain words. No conditions. -/
import Derived.Test.YtdggibigfocadaaD11
namespace Go.Proofs.Ytdggibigfocadaa
open Go.RowKit
theorem range_of {w : World} {b : Nat} {cs : Array Value} {t : TypeId} (h : w.heap[b]? = some (.cells cs t)) : w.rangeAt b 0 cs.toList := fun j v hv => by
  rw [Nat.zero_add, cell_of_row w b j cs t (0, 0) h]
  simpa using hv
theorem wpList_load_want {P : Program} {ops : Array Oper} {rest : List Oper} {op : Oper} {a : Act} {w : World} {Q : Exit → Act → World → Prop} (hw : Region.wanted op (yielded ops a.tmps) = true) (ty : TypeId) (x : Operand) (ho : op.op = .load ty x)
    (b o : Nat) (hx : a.eval x = .pointer (some ⟨b, o, none⟩)) (cs : Array Value) (d : TypeDesc) (hc : w.rangeAt b o cs.toList)
    (hu : P.underlying ty = some d) (hd : d.isRow = true) (hi : (P.info? ty).map (·.size) = some cs.size)
    (h : wpList P ops Q rest (a.put op.dst (.agg cs)) w) : wpList P ops Q (op :: rest) a w := by
  unfold wpList
  rw [if_pos hw]
  exact .inl (wp_load_mid ty x ho b o hx cs.toList d hc hu hd (by rw [Array.length_toList]; exact hi) (by rw [Array.toArray_toList]; exact h))
theorem write_no {s : DS} {n : Int} {d : List UInt8} (hn : 0 ≤ n ∧ n < (s.secs.length : Int)) (ho : s.op.1 = true) (hf : s.op.2.full = true) : s.write n d = (5, s.op.2) := by
  unfold DS.write
  rw [if_pos hn, if_pos ho, if_pos hf]
theorem read_in {s : DS} {n : Int} (hn : 0 ≤ n ∧ n < (s.secs.length : Int)) (hd : s.down = false) : s.read n = (s.peek n.toNat, 0) := by
  unfold DS.read
  rw [if_pos hn, if_neg (by rw [hd]; simp)]
theorem full_chain (n : Nat) (hn : n < 256) (b : UInt8) : ∃ s1 s3 s4 s6, (DS.fresh 256).write n (fillB b) = (0, s1) ∧ DS.write { s1 with full := true } n (fillB (b + 1)) = (5, s3) ∧ s3.sync = (0, s4) ∧ s4.read n = (fillB b, 0) ∧
    DS.write { s4 with full := false } n (fillB (b + 2)) = (0, s6) ∧ s6.read n = (fillB (b + 2), 0) ∧ s1.pend.length = 1 ∧ s4.pend.length = 0 := by
  have hl : (DS.fresh 256).secs.length = 256 := List.length_replicate
  have hin : (0 : Int) ≤ (n : Int) ∧ (n : Int) < ((DS.fresh 256).secs.length : Int) := by rw [hl]; omega
  have hset : ((DS.fresh 256).secs.set n (fillB b))[n]? = some (fillB b) := by rw [List.getElem?_set_self (by rw [hl]; exact hn)]
  have hl2 : ((DS.fresh 256).secs.set n (fillB b)).length = 256 := by rw [List.length_set, hl]
  have hin2 : (0 : Int) ≤ (n : Int) ∧ (n : Int) < (((DS.fresh 256).secs.set n (fillB b)).length : Int) := by rw [hl2]; omega
  refine ⟨⟨(DS.fresh 256).secs, [(n, fillB b)], false, false, false, (wrap64 (0 - 1))⟩, ⟨(DS.fresh 256).secs, [(n, fillB b)], true, false, false, (wrap64 (wrap64 (0 - 1) - 1))⟩, ⟨(DS.fresh 256).secs.set n (fillB b), [], true, false, false, (wrap64 (wrap64 (wrap64 (0 - 1) - 1) - 1))⟩,
    ⟨(DS.fresh 256).secs.set n (fillB b), [(n, fillB (b + 2))], false, false, false, (wrap64 (wrap64 (wrap64 (wrap64 (0 - 1) - 1) - 1) - 1))⟩, ?_, ?_, ?_, ?_, ?_, ?_, rfl, rfl⟩
  · exact write_in hin rfl rfl
  · exact write_no (s := ⟨(DS.fresh 256).secs, [(n, fillB b)], true, false, false, (wrap64 (0 - 1))⟩) hin rfl rfl
  · rfl
  · rw [read_in (s := ⟨(DS.fresh 256).secs.set n (fillB b), [], true, false, false, (wrap64 (wrap64 (wrap64 (0 - 1) - 1) - 1))⟩) hin2 rfl]
    unfold DS.peek
    rw [Int.toNat_natCast, List.getD_eq_getElem?_getD]
    show ((none : Option (List UInt8)).getD (((DS.fresh 256).secs.set n (fillB b))[n]?.getD []), (0 : Int)) = _
    rw [hset]
    rfl
  · exact write_in (s := ⟨(DS.fresh 256).secs.set n (fillB b), [], false, false, false, (wrap64 (wrap64 (wrap64 (0 - 1) - 1) - 1))⟩) hin2 rfl rfl
  · rw [read_in (s := ⟨(DS.fresh 256).secs.set n (fillB b), [(n, fillB (b + 2))], false, false, false, (wrap64 (wrap64 (wrap64 (wrap64 (0 - 1) - 1) - 1) - 1))⟩) hin2 rfl]
    unfold DS.peek
    rw [Int.toNat_natCast, lastP_some (k := 0) (p := (n, fillB (b + 2))) (fun j p hp hj => by match j, hj with | j + 1, _ => simp at hp) rfl rfl]
    rfl
end Go.Proofs.Ytdggibigfocadaa
