/- Rows of the call's own: one element more; what frames keep of them. For any seat. No conditions. -/
import Derived.Test.YtkbopeoaoakfnaaDoorG2
import Derived.Test.YtkbopeoaoakfnaaDoorLst8
import Derived.Great.Ranges
namespace Go.Proofs.YtkbopeoaoakfnaaDoor
open Go.RowKit
theorem slice1 {ops : Array Oper} {rest : List Oper} {o : Oper} {a : Act} {w : World} {Q : Exit → Act → World → Prop} {x : Operand} {cs : Array Value} {t e : TypeId} {s : Nat} {ie : TypeInfo} {z : Value} (hg : o.guard = none) (ho : o.op = .buildSlice t 1 #[(0, x)])
    (hx : a.eval x = .agg cs) (hl : cs.size = s) (hu : Tryd.prog.underlying t = some (.slice e)) (hie : Tryd.prog.info? e = some ie) (hz : ie.zero = some z) (hsz : ie.size = s) (hs : 0 < s ∧ s ≤ 1000)
    (h : wpList Tryd.prog ops Q rest (a.put o.dst (.slice (some ⟨w.heap.size, 0, none⟩) 1 1)) (w.alloc (.cells cs e))) : wpList Tryd.prog ops Q (o :: rest) a w := by
  refine wpList_buildSlice hg t e 1 _ ho cs ie z hu hie hz (by rw [hsz]; omega) (by rw [hsz]; omega) ?_ h
  simp only [List.map_toArray, List.map_cons, List.map_nil, hx, hsz]
  have := Go.Great.fill_whole (s := s) hs.1 [Value.agg cs] ((Array.range (1 * s)).map (z.cells[· % z.cells.size]!)) (fun v hv => by simp at hv; subst hv; simp [Value.cells, hl]) (by simp)
  refine this.trans ?_
  simp [Value.cells]
theorem oneReads {w : World} {g s : Nat} {cs : Array Value} {t : TypeId} {f : Nat × Nat} (h : w.heap[g]? = some (.cells cs t f)) (hs : cs.size = s) : Reads w w.heap.size s (some ⟨g, 0, none⟩) 1 cs.toList := by
  refine ⟨by simp [hs], fun _ => ⟨_, rfl, lt_of_heap h, fun j u hu => ?_⟩⟩
  rw [add_none, cell_of_row w g _ _ _ _ h, Nat.zero_add]
  simpa using hu
theorem app1 {ops : Array Oper} {rest : List Oper} {o : Oper} {a : Act} {w : World} {Q : Exit → Act → World → Prop} {sl x : Operand} {base n g : Nat} {v : Value} {xs : List Value} {cs : Array Value} {t e : TypeId} {s y : Nat} {ie : TypeInfo} {z : Value} {f : Nat × Nat}
    (hgd : o.guard = none) (ho : o.op = .call { callee := .builtin .append, args := #[sl, x], argTypes := #[t, t] }) (hs : a.eval sl = v) (hx : a.eval x = .slice (some ⟨g, 0, none⟩) 1 1)
    (hu : Tryd.prog.underlying t = some (.slice e)) (hie : Tryd.prog.info? e = some ie) (hz : ie.zero = some z) (hsz : ie.size = s) (hby : ie.bytes = y) (hzs : z.cells.size = s) (hs0 : 0 < s)
    (hown : w.ownsRow base e s v n xs) (hblk : w.heap[g]? = some (.cells cs e f)) (hcs : cs.size = s) (h1 : (cs.all fun u => u.oneCell') = true) (hn : (n + 1) * y ≤ 140737488355328) (hn2 : n + 1 ≤ 140737488355328) (hbase : base ≤ w.heap.size)
    (h : ∀ v' w', w'.ownsRow base e s v' (n + 1) (xs ++ cs.toList) → w.grownBy w' v.ownBlock → (v'.ownBlock = v.ownBlock ∨ v'.ownBlock = some w.heap.size) → wpList Tryd.prog ops Q rest (a.put o.dst v') w') : wpList Tryd.prog ops Q (o :: rest) a w :=
  wpList_append_any w hgd sl x t ho base e ie z s y hu hie hz hsz hby hzs hs0 v n xs hs hown w.heap.size _ 1 1 cs.toList hx (oneReads hblk hcs) (fun u hu => by
    have h2 := Array.all_eq_true'.1 h1 u (by simpa using hu)
    exact h2) (by simp only [maxLen]; omega) hn hbase h
theorem ownR_form {w : World} {base : Nat} {e : TypeId} {s n : Nat} {v : Value} {xs : List Value} (h : w.ownsRow base e s v n xs) : ∃ A c, v = .slice A n c ∧ n ≤ c ∧ Reads w w.heap.size s A n xs := by
  have hr := h
  obtain ⟨hl, h0 | ⟨g, cap, cur, rfl, hb, hh, hle, _⟩⟩ := h
  · obtain ⟨rfl, rfl⟩ := h0
    exact ⟨none, 0, rfl, Nat.le_refl _, hl, fun h0 => absurd h0 (by omega)⟩
  · exact ⟨_, cap, rfl, hle, Reads.of_own hr⟩
theorem ownR_frms {w w' : World} {base : Nat} {e : TypeId} {s n : Nat} {v : Value} {xs : List Value} {ps : List Nat} (h : w.ownsRow base e s v n xs) (hf : Frm ps w w') (hp : ∀ q ∈ ps, q < base ∨ v.ownBlock ≠ some q) : w'.ownsRow base e s v n xs := by
  obtain ⟨hl, h | ⟨g, cap, cur, h1, h2, h3, h4⟩⟩ := h
  · exact ⟨hl, .inl h⟩
  · refine ⟨hl, .inr ⟨g, cap, cur, h1, h2, ?_, h4⟩⟩
    refine (hf.block g (lt_of_heap h3) (fun hg => ?_)).trans h3
    rcases hp g hg with h5 | h5
    · omega
    · exact h5 (by rw [h1]; rfl)
theorem own_other {w w' : World} {b : Nat} {o : Obj} {v : Value} (h : w.heap[b]? = some o) (hg : w.grownBy w' v.ownBlock) (hne : v.ownBlock ≠ some b) : w'.heap[b]? = some o := (hg.block b (lt_of_heap h) (fun e => hne e.symm)).trans h
theorem ownR_other {w w' : World} {base : Nat} {e : TypeId} {s n : Nat} {u v : Value} {xs : List Value} (h : w.ownsRow base e s v n xs) (hg : w.grownBy w' u.ownBlock) (hne : ∀ k, u.ownBlock = some k → v.ownBlock ≠ some k) : w'.ownsRow base e s v n xs := by
  refine World.ownsRow.kept h hg ?_
  cases hv : v.ownBlock with
  | none => exact .inl rfl
  | some k => exact .inr (fun h2 => hne k h2.symm hv)
theorem ownR_below {w w' : World} {base : Nat} {e : TypeId} {s n : Nat} {v : Value} {xs : List Value} (h : w.ownsRow base e s v n xs) (hb : Below w.heap.size w w') : w'.ownsRow base e s v n xs := World.ownsRow.kept h (grown_of_below hb none) (by cases v.ownBlock <;> simp)
theorem Frm.of_grown {w w' : World} {v : Value} (h : w.grownBy w' v.ownBlock) : Frm v.ownBlock.toList w w' := ⟨h.os, h.tape, h.output, h.size, fun k hk hn => h.block k hk (fun e => hn (by rw [← e]; simp))⟩
theorem reads_block {w : World} {b : Nat} {l : List UInt8} {t : TypeId} {f : Nat × Nat} {n : Nat} (h : w.heap[b]? = some (.cells (bvs l).toArray t f)) (hn : l.length = n) : Reads w w.heap.size 1 (some ⟨b, 0, none⟩) n (bvs l) := by
  subst hn
  refine ⟨by simp [bvs_length], fun _ => ⟨_, rfl, lt_of_heap h, fun j u hu => ?_⟩⟩
  rw [add_none]
  show w.cell? ⟨b, 0 + j, none⟩ = _
  rw [Nat.zero_add, cell_of_row w b j _ _ _ h]
  simpa using hu
end Go.Proofs.YtkbopeoaoakfnaaDoor
