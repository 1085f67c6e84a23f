/- A row of bytes that the run-time has marked behind its end (what a string's conversion leaves), appended to. No conditions. -/
import Derived.Test.YtjichadkonlfpaaDoorH0
import Derived.Lib.ConvBytes
import Derived.Lib.AppendStr
namespace Go.Proofs.YtjichadkonlfpaaDoor
open Go.RowKit
def OwnT (w : World) (base : Nat) (v : Value) (l : List UInt8) : Prop :=
  ∃ g cap cur fz, v = .slice (some ⟨g, 0, none⟩) l.length cap ∧ base ≤ g ∧ w.heap[g]? = some (.cells cur 5 fz) ∧ (fz.2 = 0 ∨ cap ≤ fz.1) ∧ l.length ≤ cap ∧ cap ≤ maxLen ∧ cur.size = cap ∧ cur.toList.take l.length = bvs l
theorem OwnT.reads {w : World} {base : Nat} {v : Value} {l : List UInt8} (h : OwnT w base v l) : ∃ g cap, v = .slice (some ⟨g, 0, none⟩) l.length cap ∧ base ≤ g ∧ Reads w w.heap.size 1 (some ⟨g, 0, none⟩) l.length (bvs l) := by
  obtain ⟨g, cap, cur, fz, hv, hb, hg, _, hl, _, hs, ht⟩ := h
  refine ⟨g, cap, hv, hb, by simp [bvs_length], fun _ => ⟨_, rfl, lt_of_heap hg, fun j u hu => ?_⟩⟩
  rw [add_none, Nat.zero_add, cell_of_row w g j _ _ _ hg]
  rw [← ht] at hu
  rw [List.getElem?_take] at hu
  split at hu
  · simpa using hu
  · cases hu
theorem run_storeCells_tail (P : Program) (g o : Nat) (t : TypeId) (fz : Nat × Nat) : ∀ (vs : List Value) (i : Nat) (cur : Array Value) (w : World), w.heap[g]? = some (.cells cur t fz) → (fz.2 = 0 ∨ cur.size ≤ fz.1) → o + i + vs.length ≤ cur.size → (∀ u ∈ vs, u.oneCell' = true) →
    (storeCells ⟨g, o, none⟩ vs i).run P w = .ok () (w.setRow g (cur.toList.take (o + i) ++ vs ++ cur.toList.drop (o + i + vs.length)).toArray)
  | [], i, cur, w, hg, _, _, _ => by
    simp only [storeCells, List.append_nil, List.length_nil, Nat.add_zero, List.take_append_drop, Array.toArray_toList]
    rw [setRow_self w g cur t fz hg]
    rfl
  | v :: rest, i, cur, w, hg, hfz, hl, h1 => by
    have hi : o + i < cur.size := by simp at hl; omega
    have hadd : (⟨g, o, none⟩ : Addr).add i = ⟨g, o + i, none⟩ := add_none g o i
    have hcell : w.cell? ⟨g, o + i, none⟩ = some cur[o + i] := by simp [World.cell?, hg, hi]
    have hfro : w.frozen? ⟨g, o + i, none⟩ = false := by
      obtain ⟨lo, hi'⟩ := fz
      simp only [World.frozen?, hg, Bool.and_eq_false_iff, decide_eq_false_iff_not]
      simp only at hfz
      omega
    have hst : (store ((⟨g, o, none⟩ : Addr).add i) v).run P w = .ok () (w.setRow g (cur.setIfInBounds (o + i) v)) := by
      rw [hadd, run_store P w _ v _ (h1 v (by simp)), hcell]
      simp [hfro, setCell_eq_setRow w g (o + i) cur t fz v hg]
    have ih := run_storeCells_tail P g o t fz rest (i + 1) (cur.setIfInBounds (o + i) v) (w.setRow g (cur.setIfInBounds (o + i) v)) (setRow_heap w g cur _ t _ hg) (by simpa using hfz) (by simp at hl ⊢; omega) (fun x hx => h1 x (by simp [hx]))
    simp only [storeCells, Sem.run_bind, hst, Result.andThen_ok, ih, setRow_setRow]
    congr 3
    have e := list_seg_step cur.toList (o + i) v rest (by simp at hl ⊢; omega)
    simpa [Array.toList_setIfInBounds, Nat.add_assoc] using e
/-- What an append in place leaves. -/
theorem OwnT.room {w : World} {base g cap : Nat} {l news : List UInt8} {cur : Array Value} {fz : Nat × Nat} (hb : base ≤ g) (hg : w.heap[g]? = some (.cells cur 5 fz)) (hfz : fz.2 = 0 ∨ cap ≤ fz.1) (hc : cap ≤ maxLen) (hs : cur.size = cap) (ht : cur.toList.take l.length = bvs l) (hl : l.length ≤ cap) (hroom : l.length + news.length ≤ cap) :
    OwnT (w.setRow g (cur.toList.take l.length ++ bvs news ++ cur.toList.drop (l.length + news.length)).toArray) base (.slice (some ⟨g, 0, none⟩) (l.length + news.length) cap) (l ++ news) := by
  refine ⟨g, cap, _, fz, by rw [List.length_append], hb, setRow_heap w g cur _ 5 _ hg, hfz, by rw [List.length_append]; exact hroom, hc, ?_, ?_⟩
  · simp only [List.size_toArray, List.length_append, List.length_take, List.length_drop, Array.length_toList, bvs_length]
    omega
  · rw [ht, bvs_append, List.length_append]
    have h2 : (bvs l ++ bvs news).length = l.length + news.length := by simp [bvs_length]
    rw [← h2]
    exact List.take_left
/-- What an append that grows leaves. -/
theorem OwnT.fresh {w : World} {base : Nat} {l : List UInt8} {cap : Nat} (hb : base ≤ w.heap.size) (hl : l.length ≤ cap) (hc : cap ≤ maxLen) : OwnT (w.drew.alloc (.cells ((bvs l).toArray ++ Builtin.zeroCells (Value.int .u8 0).cells (cap - l.length)) 5)) base (.slice (some ⟨w.heap.size, 0, none⟩) l.length cap) l := by
  refine ⟨w.heap.size, cap, _, (0, 0), rfl, hb, heap_alloc_new w.drew _, .inl rfl, hl, hc, ?_, ?_⟩
  · have hz1 : (Value.int IntKind.u8 0).cells.size = 1 := rfl
    simp only [Array.size_append, List.size_toArray, size_zeroCells, hz1, bvs_length]
    omega
  · have h2 : (bvs l).length = l.length := bvs_length l
    simp only [Array.toList_append]
    rw [← h2]
    exact List.take_left
theorem run_appT {w : World} {base B : Nat} {v : Value} {l news : List UInt8} {A : Option Addr} {m c : Nat} (ty : TypeId) (hown : OwnT w base v l) (hr : Reads w B 1 A m (bvs news)) (hbytes : l.length + m ≤ 140737488355328) (hbase : base ≤ w.heap.size) :
    ∃ v' w', (Builtin.append_ #[24, 24] ty #[v, .slice A m c]).run Tryd.prog w = .ok v' w' ∧ OwnT w' base v' (l ++ news) ∧ w.grownBy w' v.ownBlock ∧ (v'.ownBlock = v.ownBlock ∨ v'.ownBlock = some w.heap.size) := by
  obtain ⟨i0, hi0, hz0, hz1, hz2⟩ := info_parts u8info
  have hm : m = news.length := by have := hr.1; rw [bvs_length] at this; omega
  subst hm
  obtain ⟨g, cap, cur, fz, rfl, hb, hg, hfz, hl, hc, hs, ht⟩ := hown
  have h63 : l.length + news.length ≤ maxLen := by simp only [maxLen]; omega
  rcases A with _ | ad
  · have h0 : news = [] := by
      rcases Nat.eq_zero_or_pos news.length with h0 | h0
      · exact List.eq_nil_of_length_eq_zero h0
      · obtain ⟨ad, h, _⟩ := hr.2 h0; cases h
    subst h0
    refine ⟨_, w, ?_, ⟨g, cap, cur, fz, by simp, hb, hg, hfz, by simpa using hl, hc, hs, by simpa using ht⟩, World.grownBy.refl w _, .inl rfl⟩
    simp [Builtin.append_, run_underlying Tryd.underlying24, sizeOf, typeInfo, hi0, Builtin.lenOf, Builtin.firstCells, loadCells, hl, storeCells]
  · have hcells : ∀ j u, (bvs news)[j]? = some u → w.cell? (ad.add j) = some u := by
      intro j u hu
      rcases Nat.eq_zero_or_pos news.length with h0 | h0
      · have h3 := List.eq_nil_of_length_eq_zero h0
        subst h3
        simp [bvs] at hu
      · obtain ⟨ad', h, _, hc⟩ := hr.2 h0
        cases h
        exact hc j u hu
    by_cases hroom : l.length + news.length ≤ cap
    · have hf := run_firstCells_some (P := Tryd.prog) w i0.size news.length ad news.length c (bvs news) (by rw [hz1, bvs_length, Nat.mul_one]) hcells
      have hst := run_storeCells_tail Tryd.prog g l.length 5 fz (bvs news) 0 cur w hg (by rw [hs]; exact hfz) (by rw [bvs_length]; omega) (bvs_one _)
      simp only [Nat.add_zero, bvs_length] at hst
      refine ⟨_, _, ?_, OwnT.room hb hg hfz hc hs ht hl hroom, ⟨rfl, rfl, rfl, by simp, fun k _ hk => setRow_other w g k _ (fun e => hk (by simp [Value.ownBlock, e]))⟩, .inl rfl⟩
      simp [Builtin.append_, run_underlying Tryd.underlying24, sizeOf, typeInfo, hi0, hz1, Builtin.lenOf, hroom, Addr.add_lit]
      rw [hz1] at hf
      simp [hf, hst]
    · have holds : ∀ j u, (bvs l)[j]? = some u → w.cell? ((⟨g, 0, none⟩ : Addr).add j) = some u := by
        obtain ⟨g2, cap2, hv2, _, hr2⟩ := OwnT.reads ⟨g, cap, cur, fz, rfl, hb, hg, hfz, hl, hc, hs, ht⟩
        cases hv2
        intro j u hu
        rcases Nat.eq_zero_or_pos l.length with h0 | h0
        · have h3 := List.eq_nil_of_length_eq_zero h0
          subst h3
          simp [bvs] at hu
        · obtain ⟨ad', h, _, hc⟩ := hr2.2 h0
          cases h
          exact hc j u hu
      have hr3 := run_append_grow (P := Tryd.prog) w 24 ty 5 i0 (.int .u8 0) Tryd.underlying24 hi0 hz0 ⟨g, 0, none⟩ l.length cap (bvs l) (by rw [hz1, bvs_length, Nat.mul_one]) holds ad news.length c (bvs news) (by rw [hz1, bvs_length, Nat.mul_one]) hcells (by omega) (by simp only [maxLen] at h63; omega) (by rw [hz2]; exact growslice_fits (by omega) (by omega))
      have hge := grownCap_ge w (l.length + news.length) cap 5
      have hcm := grownCap_le_maxLen w (l.length + news.length) cap 5 h63
      have hF := OwnT.fresh (w := w) (base := base) (l := l ++ news) (cap := grownCap w (l.length + news.length) cap 5) hbase (by rw [List.length_append]; exact hge) hcm
      rw [List.length_append, bvs_append] at hF
      refine ⟨_, _, hr3, ?_, ⟨rfl, rfl, rfl, by simp, fun k hk _ => heap_alloc_old w.drew _ hk⟩, .inr rfl⟩
      rw [show ((bvs l).toArray ++ (bvs news).toArray) = (bvs l ++ bvs news).toArray from by simp]
      exact hF
theorem strCells_bvs (l : List UInt8) : Lib.strCells ⟨l.toArray⟩ = bvs l := by
  simp [Lib.strCells, bvs, bv]
theorem run_appTs {w : World} {base : Nat} {v : Value} {l news : List UInt8} (ty : TypeId) (hown : OwnT w base v l) (hbytes : l.length + news.length ≤ 140737488355328) (hbase : base ≤ w.heap.size) :
    ∃ v' w', (Builtin.append_ #[24, 9] ty #[v, .string ⟨news.toArray⟩]).run Tryd.prog w = .ok v' w' ∧ OwnT w' base v' (l ++ news) ∧ w.grownBy w' v.ownBlock ∧ (v'.ownBlock = v.ownBlock ∨ v'.ownBlock = some w.heap.size) := by
  obtain ⟨i0, hi0, hz0, hz1, hz2⟩ := info_parts u8info
  obtain ⟨g, cap, cur, fz, rfl, hb, hg, hfz, hl, hc, hs, ht⟩ := hown
  have h63 : l.length + news.length ≤ maxLen := by simp only [maxLen]; omega
  have hsz : (⟨news.toArray⟩ : ByteArray).size = news.length := by simp [ByteArray.size]
  by_cases hroom : l.length + news.length ≤ cap
  · have hf := Lib.run_firstCells_string (P := Tryd.prog) w 1 ⟨news.toArray⟩
    have hst := run_storeCells_tail Tryd.prog g l.length 5 fz (bvs news) 0 cur w hg (by rw [hs]; exact hfz) (by rw [bvs_length]; omega) (bvs_one _)
    simp only [Nat.add_zero, bvs_length] at hst
    rw [strCells_bvs, hsz] at hf
    refine ⟨_, _, ?_, OwnT.room hb hg hfz hc hs ht hl hroom, ⟨rfl, rfl, rfl, by simp, fun k _ hk => setRow_other w g k _ (fun e => hk (by simp [Value.ownBlock, e]))⟩, .inl rfl⟩
    simp [Builtin.append_, run_underlying Tryd.underlying24, run_underlying Tryd.underlying9, sizeOf, typeInfo, hi0, hz1, Builtin.lenOf, hsz, hroom, Addr.add_lit]
    simp [hf, hst]
  · have holds : ∀ j u, (bvs l)[j]? = some u → w.cell? ((⟨g, 0, none⟩ : Addr).add j) = some u := by
      obtain ⟨g2, cap2, hv2, _, hr2⟩ := OwnT.reads ⟨g, cap, cur, fz, rfl, hb, hg, hfz, hl, hc, hs, ht⟩
      cases hv2
      intro j u hu
      rcases Nat.eq_zero_or_pos l.length with h0 | h0
      · have h3 := List.eq_nil_of_length_eq_zero h0
        subst h3
        simp [bvs] at hu
      · obtain ⟨ad', h, _, hc⟩ := hr2.2 h0
        cases h
        exact hc j u hu
    have hr3 := Lib.run_append_grow_string (P := Tryd.prog) w 24 9 ty 5 i0 (.int .u8 0) Tryd.underlying24 Tryd.underlying9 hi0 hz0 ⟨g, 0, none⟩ l.length cap (bvs l) (by rw [hz1, bvs_length, Nat.mul_one]) holds ⟨news.toArray⟩ (by omega) (by rw [hsz]; simp only [maxLen] at h63; omega) (by rw [hz2, hsz]; exact growslice_fits (by omega) (by omega))
    rw [hsz, strCells_bvs] at hr3
    have hge := grownCap_ge w (l.length + news.length) cap 5
    have hcm := grownCap_le_maxLen w (l.length + news.length) cap 5 h63
    have hF := OwnT.fresh (w := w) (base := base) (l := l ++ news) (cap := grownCap w (l.length + news.length) cap 5) hbase (by rw [List.length_append]; exact hge) hcm
    rw [List.length_append, bvs_append] at hF
    refine ⟨_, _, hr3, ?_, ⟨rfl, rfl, rfl, by simp, fun k hk _ => heap_alloc_old w.drew _ hk⟩, .inr rfl⟩
    rw [show ((bvs l).toArray ++ (bvs news).toArray) = (bvs l ++ bvs news).toArray from by simp]
    exact hF
theorem wpList_app_gen {P : Program} {ops : Array Oper} {rest : List Oper} {o : Oper} {a : Act} {w : World} {Q : Exit → Act → World → Prop} {s x : Operand} {t u : TypeId} {v y : Value} {R : Value → World → Prop}
    (hgd : o.guard = none) (ho : o.op = .call { callee := .builtin .append, args := #[s, x], argTypes := #[t, u] }) (hs : a.eval s = v) (hx : a.eval x = y)
    (hr : ∃ v' w', (Builtin.append_ #[t, u] o.type #[v, y]).run P w = .ok v' w' ∧ R v' w') (h : ∀ v' w', R v' w' → wpList P ops Q rest (a.put o.dst v') w') : wpList P ops Q (o :: rest) a w := by
  refine wpList_plain hgd fun K hK => ?_
  obtain ⟨v', w', hrun, h2⟩ := hr
  unfold Oper.wp execOp
  simp only [ho, resolve, invoke, builtin, Sem.run_bind, Sem.run_pure, Result.andThen_ok, List.map_toArray, List.map_cons, List.map_nil, hs, hx, hrun]
  exact hK _ _ (h v' w' h2)
theorem appT {ops : Array Oper} {rest : List Oper} {o : Oper} {a : Act} {w : World} {Q : Exit → Act → World → Prop} {s x : Operand} {base B : Nat} {v : Value} {l news : List UInt8} {A : Option Addr} {m c : Nat}
    (hgd : o.guard = none) (ho : o.op = .call { callee := .builtin .append, args := #[s, x], argTypes := #[24, 24] })
    (hs : a.eval s = v) (hx : a.eval x = .slice A m c) (hown : OwnT w base v l) (hr : Reads w B 1 A m (bvs news)) (hbytes : l.length + m ≤ 140737488355328) (hbase : base ≤ w.heap.size)
    (h : ∀ v' w', OwnT w' base v' (l ++ news) → w.grownBy w' v.ownBlock → (v'.ownBlock = v.ownBlock ∨ v'.ownBlock = some w.heap.size) → wpList Tryd.prog ops Q rest (a.put o.dst v') w') : wpList Tryd.prog ops Q (o :: rest) a w :=
  wpList_app_gen hgd ho hs hx (run_appT o.type hown hr hbytes hbase) (fun v' w' hh => h v' w' hh.1 hh.2.1 hh.2.2)
theorem appTs {ops : Array Oper} {rest : List Oper} {o : Oper} {a : Act} {w : World} {Q : Exit → Act → World → Prop} {s x : Operand} {base : Nat} {v : Value} {l news : List UInt8}
    (hgd : o.guard = none) (ho : o.op = .call { callee := .builtin .append, args := #[s, x], argTypes := #[24, 9] })
    (hs : a.eval s = v) (hx : a.eval x = .string ⟨news.toArray⟩) (hown : OwnT w base v l) (hbytes : l.length + news.length ≤ 140737488355328) (hbase : base ≤ w.heap.size)
    (h : ∀ v' w', OwnT w' base v' (l ++ news) → w.grownBy w' v.ownBlock → (v'.ownBlock = v.ownBlock ∨ v'.ownBlock = some w.heap.size) → wpList Tryd.prog ops Q rest (a.put o.dst v') w') : wpList Tryd.prog ops Q (o :: rest) a w :=
  wpList_app_gen hgd ho hs hx (run_appTs o.type hown hbytes hbase) (fun v' w' hh => h v' w' hh.1 hh.2.1 hh.2.2)
/-- What a string's conversion leaves. -/
theorem ownT_bytes (w : World) (l : List UInt8) (hl : l.length ≤ maxLen) : OwnT (Lib.bytesWorld w 5 ⟨l.toArray⟩) w.heap.size (.slice (some ⟨w.heap.size, 0, none⟩) (⟨l.toArray⟩ : ByteArray).size (grownCap w (⟨l.toArray⟩ : ByteArray).size 0 5)) l := by
  have hsz : (⟨l.toArray⟩ : ByteArray).size = l.length := by simp [ByteArray.size]
  have hge := grownCap_ge w l.length 0 5
  have hcm := grownCap_le_maxLen w l.length 0 5 hl
  have hcs : (Lib.bytesCells w 5 ⟨l.toArray⟩).size = grownCap w l.length 0 5 := by
    simp only [Lib.bytesCells, Array.size_append, Array.size_map, Array.size_replicate, hsz]
    have h3 : (⟨l.toArray⟩ : ByteArray).data.size = l.length := by simp
    have h4 : l.toArray.size = l.length := by simp
    omega
  refine ⟨w.heap.size, grownCap w l.length 0 5, _, _, by rw [hsz], Nat.le_refl _, Lib.bytesWorld_at_new w _ _, .inr (by rw [hcs]; exact Nat.le_refl _), hge, hcm, hcs, ?_⟩
  simp only [Lib.bytesCells, Array.toList_append, Array.toList_map]
  have h2 : (List.map (fun b : UInt8 => Value.int .u8 (b.toNat : Int)) l.toArray.toList).length = l.length := by simp
  show List.take l.length (List.map (fun b : UInt8 => Value.int .u8 (b.toNat : Int)) l.toArray.toList ++ _) = bvs l
  rw [List.take_append_of_le_length (by rw [h2]; exact Nat.le_refl _), List.take_of_length_le (by rw [h2]; exact Nat.le_refl _)]
  simp [bvs, bv]
end Go.Proofs.YtjichadkonlfpaaDoor
