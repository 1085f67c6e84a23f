/- The texts HA1 HA2 HA3 HA4 of this work, merged by wip/merge.py. No conditions. -/
import Derived.Test.YtjichadkonlfpaaDoorQHB
import Derived.Lib.ConvBytes
import Derived.Lib.AppendStr
import Derived.Test.YtjichadkonlfpaaDoorQHS
namespace Go.Proofs.YtjichadkonlfpaaDoor
open Go.RowKit
def OwnT (w : World) (base : Nat) (v : Value) (l : List UInt8) : Prop :=
  ∃ g cap cur fz, v = .slice (some ⟨g, 0, none⟩) l.length cap ∧ base ≤ g ∧ w.heap[g]? = some (.cells cur 5 fz) ∧ (fz.2 = 0 ∨ cap ≤ fz.1) ∧ l.length ≤ cap ∧ cap ≤ maxLen ∧ cur.size = cap ∧ cur.toList.take l.length = bvs l
theorem OwnT.reads {w : World} {base : Nat} {v : Value} {l : List UInt8} (h : OwnT w base v l) : ∃ g cap, v = .slice (some ⟨g, 0, none⟩) l.length cap ∧ base ≤ g ∧ Reads w w.heap.size 1 (some ⟨g, 0, none⟩) l.length (bvs l) := by
  obtain ⟨g, cap, cur, fz, hv, hb, hg, _, hl, _, hs, ht⟩ := h
  refine ⟨g, cap, hv, hb, by simp [bvs_length], fun _ => ⟨_, rfl, lt_of_heap hg, fun j u hu => ?_⟩⟩
  rw [add_none, Nat.zero_add, cell_of_row w g j _ _ _ hg]
  rw [← ht] at hu
  rw [List.getElem?_take] at hu
  split at hu
  · simpa using hu
  · cases hu
theorem run_storeCells_tail (P : Program) (g o : Nat) (t : TypeId) (fz : Nat × Nat) : ∀ (vs : List Value) (i : Nat) (cur : Array Value) (w : World), w.heap[g]? = some (.cells cur t fz) → (fz.2 = 0 ∨ cur.size ≤ fz.1) → o + i + vs.length ≤ cur.size → (∀ u ∈ vs, u.oneCell' = true) →
    (storeCells ⟨g, o, none⟩ vs i).run P w = .ok () (w.setRow g (cur.toList.take (o + i) ++ vs ++ cur.toList.drop (o + i + vs.length)).toArray)
  | [], i, cur, w, hg, _, _, _ => by
    simp only [storeCells, List.append_nil, List.length_nil, Nat.add_zero, List.take_append_drop, Array.toArray_toList]
    rw [setRow_self w g cur t fz hg]
    rfl
  | v :: rest, i, cur, w, hg, hfz, hl, h1 => by
    have hi : o + i < cur.size := by simp at hl; omega
    have hadd : (⟨g, o, none⟩ : Addr).add i = ⟨g, o + i, none⟩ := add_none g o i
    have hcell : w.cell? ⟨g, o + i, none⟩ = some cur[o + i] := by simp [World.cell?, hg, hi]
    have hfro : w.frozen? ⟨g, o + i, none⟩ = false := by
      obtain ⟨lo, hi'⟩ := fz
      simp only [World.frozen?, hg, Bool.and_eq_false_iff, decide_eq_false_iff_not]
      simp only at hfz
      omega
    have hst : (store ((⟨g, o, none⟩ : Addr).add i) v).run P w = .ok () (w.setRow g (cur.setIfInBounds (o + i) v)) := by
      rw [hadd, run_store P w _ v _ (h1 v (by simp)), hcell]
      simp [hfro, setCell_eq_setRow w g (o + i) cur t fz v hg]
    have ih := run_storeCells_tail P g o t fz rest (i + 1) (cur.setIfInBounds (o + i) v) (w.setRow g (cur.setIfInBounds (o + i) v)) (setRow_heap w g cur _ t _ hg) (by simpa using hfz) (by simp at hl ⊢; omega) (fun x hx => h1 x (by simp [hx]))
    simp only [storeCells, Sem.run_bind, hst, Result.andThen_ok, ih, setRow_setRow]
    congr 3
    have e := list_seg_step cur.toList (o + i) v rest (by simp at hl ⊢; omega)
    simpa [Array.toList_setIfInBounds, Nat.add_assoc] using e
/-- What an append in place leaves. -/
theorem OwnT.room {w : World} {base g cap : Nat} {l news : List UInt8} {cur : Array Value} {fz : Nat × Nat} (hb : base ≤ g) (hg : w.heap[g]? = some (.cells cur 5 fz)) (hfz : fz.2 = 0 ∨ cap ≤ fz.1) (hc : cap ≤ maxLen) (hs : cur.size = cap) (ht : cur.toList.take l.length = bvs l) (hl : l.length ≤ cap) (hroom : l.length + news.length ≤ cap) :
    OwnT (w.setRow g (cur.toList.take l.length ++ bvs news ++ cur.toList.drop (l.length + news.length)).toArray) base (.slice (some ⟨g, 0, none⟩) (l.length + news.length) cap) (l ++ news) := by
  refine ⟨g, cap, _, fz, by rw [List.length_append], hb, setRow_heap w g cur _ 5 _ hg, hfz, by rw [List.length_append]; exact hroom, hc, ?_, ?_⟩
  · simp only [List.size_toArray, List.length_append, List.length_take, List.length_drop, Array.length_toList, bvs_length]
    omega
  · rw [ht, bvs_append, List.length_append]
    have h2 : (bvs l ++ bvs news).length = l.length + news.length := by simp [bvs_length]
    rw [← h2]
    exact List.take_left
/-- What an append that grows leaves. -/
theorem OwnT.fresh {w : World} {base : Nat} {l : List UInt8} {cap : Nat} (hb : base ≤ w.heap.size) (hl : l.length ≤ cap) (hc : cap ≤ maxLen) : OwnT (w.drew.alloc (.cells ((bvs l).toArray ++ Builtin.zeroCells (Value.int .u8 0).cells (cap - l.length)) 5)) base (.slice (some ⟨w.heap.size, 0, none⟩) l.length cap) l := by
  refine ⟨w.heap.size, cap, _, (0, 0), rfl, hb, heap_alloc_new w.drew _, .inl rfl, hl, hc, ?_, ?_⟩
  · have hz1 : (Value.int IntKind.u8 0).cells.size = 1 := rfl
    simp only [Array.size_append, List.size_toArray, size_zeroCells, hz1, bvs_length]
    omega
  · have h2 : (bvs l).length = l.length := bvs_length l
    simp only [Array.toList_append]
    rw [← h2]
    exact List.take_left
theorem run_appT {w : World} {base B : Nat} {v : Value} {l news : List UInt8} {A : Option Addr} {m c : Nat} (ty : TypeId) (hown : OwnT w base v l) (hr : Reads w B 1 A m (bvs news)) (hbytes : l.length + m ≤ 140737488355328) (hbase : base ≤ w.heap.size) :
    ∃ v' w', (Builtin.append_ #[24, 24] ty #[v, .slice A m c]).run Tryd.prog w = .ok v' w' ∧ OwnT w' base v' (l ++ news) ∧ w.grownBy w' v.ownBlock ∧ (v'.ownBlock = v.ownBlock ∨ v'.ownBlock = some w.heap.size) := by
  obtain ⟨i0, hi0, hz0, hz1, hz2⟩ := info_parts u8info
  have hm : m = news.length := by have := hr.1; rw [bvs_length] at this; omega
  subst hm
  obtain ⟨g, cap, cur, fz, rfl, hb, hg, hfz, hl, hc, hs, ht⟩ := hown
  have h63 : l.length + news.length ≤ maxLen := by simp only [maxLen]; omega
  rcases A with _ | ad
  · have h0 : news = [] := by
      rcases Nat.eq_zero_or_pos news.length with h0 | h0
      · exact List.eq_nil_of_length_eq_zero h0
      · obtain ⟨ad, h, _⟩ := hr.2 h0; cases h
    subst h0
    refine ⟨_, w, ?_, ⟨g, cap, cur, fz, by simp, hb, hg, hfz, by simpa using hl, hc, hs, by simpa using ht⟩, World.grownBy.refl w _, .inl rfl⟩
    simp [Builtin.append_, run_underlying Tryd.underlying24, sizeOf, typeInfo, hi0, Builtin.lenOf, Builtin.firstCells, loadCells, hl, storeCells]
  · have hcells : ∀ j u, (bvs news)[j]? = some u → w.cell? (ad.add j) = some u := by
      intro j u hu
      rcases Nat.eq_zero_or_pos news.length with h0 | h0
      · have h3 := List.eq_nil_of_length_eq_zero h0
        subst h3
        simp [bvs] at hu
      · obtain ⟨ad', h, _, hc⟩ := hr.2 h0
        cases h
        exact hc j u hu
    by_cases hroom : l.length + news.length ≤ cap
    · have hf := run_firstCells_some (P := Tryd.prog) w i0.size news.length ad news.length c (bvs news) (by rw [hz1, bvs_length, Nat.mul_one]) hcells
      have hst := run_storeCells_tail Tryd.prog g l.length 5 fz (bvs news) 0 cur w hg (by rw [hs]; exact hfz) (by rw [bvs_length]; omega) (bvs_one _)
      simp only [Nat.add_zero, bvs_length] at hst
      refine ⟨_, _, ?_, OwnT.room hb hg hfz hc hs ht hl hroom, ⟨rfl, rfl, rfl, by simp, fun k _ hk => setRow_other w g k _ (fun e => hk (by simp [Value.ownBlock, e]))⟩, .inl rfl⟩
      simp [Builtin.append_, run_underlying Tryd.underlying24, sizeOf, typeInfo, hi0, hz1, Builtin.lenOf, hroom, Addr.add_lit]
      rw [hz1] at hf
      simp [hf, hst]
    · have holds : ∀ j u, (bvs l)[j]? = some u → w.cell? ((⟨g, 0, none⟩ : Addr).add j) = some u := by
        obtain ⟨g2, cap2, hv2, _, hr2⟩ := OwnT.reads ⟨g, cap, cur, fz, rfl, hb, hg, hfz, hl, hc, hs, ht⟩
        cases hv2
        intro j u hu
        rcases Nat.eq_zero_or_pos l.length with h0 | h0
        · have h3 := List.eq_nil_of_length_eq_zero h0
          subst h3
          simp [bvs] at hu
        · obtain ⟨ad', h, _, hc⟩ := hr2.2 h0
          cases h
          exact hc j u hu
      have hr3 := run_append_grow (P := Tryd.prog) w 24 ty 5 i0 (.int .u8 0) Tryd.underlying24 hi0 hz0 ⟨g, 0, none⟩ l.length cap (bvs l) (by rw [hz1, bvs_length, Nat.mul_one]) holds ad news.length c (bvs news) (by rw [hz1, bvs_length, Nat.mul_one]) hcells (by omega) (by simp only [maxLen] at h63; omega) (by rw [hz2]; exact growslice_fits (by omega) (by omega))
      have hge := grownCap_ge w (l.length + news.length) cap 5
      have hcm := grownCap_le_maxLen w (l.length + news.length) cap 5 h63
      have hF := OwnT.fresh (w := w) (base := base) (l := l ++ news) (cap := grownCap w (l.length + news.length) cap 5) hbase (by rw [List.length_append]; exact hge) hcm
      rw [List.length_append, bvs_append] at hF
      refine ⟨_, _, hr3, ?_, ⟨rfl, rfl, rfl, by simp, fun k hk _ => heap_alloc_old w.drew _ hk⟩, .inr rfl⟩
      rw [show ((bvs l).toArray ++ (bvs news).toArray) = (bvs l ++ bvs news).toArray from by simp]
      exact hF
theorem strCells_bvs (l : List UInt8) : Lib.strCells ⟨l.toArray⟩ = bvs l := by
  simp [Lib.strCells, bvs, bv]
theorem run_appTs {w : World} {base : Nat} {v : Value} {l news : List UInt8} (ty : TypeId) (hown : OwnT w base v l) (hbytes : l.length + news.length ≤ 140737488355328) (hbase : base ≤ w.heap.size) :
    ∃ v' w', (Builtin.append_ #[24, 9] ty #[v, .string ⟨news.toArray⟩]).run Tryd.prog w = .ok v' w' ∧ OwnT w' base v' (l ++ news) ∧ w.grownBy w' v.ownBlock ∧ (v'.ownBlock = v.ownBlock ∨ v'.ownBlock = some w.heap.size) := by
  obtain ⟨i0, hi0, hz0, hz1, hz2⟩ := info_parts u8info
  obtain ⟨g, cap, cur, fz, rfl, hb, hg, hfz, hl, hc, hs, ht⟩ := hown
  have h63 : l.length + news.length ≤ maxLen := by simp only [maxLen]; omega
  have hsz : (⟨news.toArray⟩ : ByteArray).size = news.length := by simp [ByteArray.size]
  by_cases hroom : l.length + news.length ≤ cap
  · have hf := Lib.run_firstCells_string (P := Tryd.prog) w 1 ⟨news.toArray⟩
    have hst := run_storeCells_tail Tryd.prog g l.length 5 fz (bvs news) 0 cur w hg (by rw [hs]; exact hfz) (by rw [bvs_length]; omega) (bvs_one _)
    simp only [Nat.add_zero, bvs_length] at hst
    rw [strCells_bvs, hsz] at hf
    refine ⟨_, _, ?_, OwnT.room hb hg hfz hc hs ht hl hroom, ⟨rfl, rfl, rfl, by simp, fun k _ hk => setRow_other w g k _ (fun e => hk (by simp [Value.ownBlock, e]))⟩, .inl rfl⟩
    simp [Builtin.append_, run_underlying Tryd.underlying24, run_underlying Tryd.underlying9, sizeOf, typeInfo, hi0, hz1, Builtin.lenOf, hsz, hroom, Addr.add_lit]
    simp [hf, hst]
  · have holds : ∀ j u, (bvs l)[j]? = some u → w.cell? ((⟨g, 0, none⟩ : Addr).add j) = some u := by
      obtain ⟨g2, cap2, hv2, _, hr2⟩ := OwnT.reads ⟨g, cap, cur, fz, rfl, hb, hg, hfz, hl, hc, hs, ht⟩
      cases hv2
      intro j u hu
      rcases Nat.eq_zero_or_pos l.length with h0 | h0
      · have h3 := List.eq_nil_of_length_eq_zero h0
        subst h3
        simp [bvs] at hu
      · obtain ⟨ad', h, _, hc⟩ := hr2.2 h0
        cases h
        exact hc j u hu
    have hr3 := Lib.run_append_grow_string (P := Tryd.prog) w 24 9 ty 5 i0 (.int .u8 0) Tryd.underlying24 Tryd.underlying9 hi0 hz0 ⟨g, 0, none⟩ l.length cap (bvs l) (by rw [hz1, bvs_length, Nat.mul_one]) holds ⟨news.toArray⟩ (by omega) (by rw [hsz]; simp only [maxLen] at h63; omega) (by rw [hz2, hsz]; exact growslice_fits (by omega) (by omega))
    rw [hsz, strCells_bvs] at hr3
    have hge := grownCap_ge w (l.length + news.length) cap 5
    have hcm := grownCap_le_maxLen w (l.length + news.length) cap 5 h63
    have hF := OwnT.fresh (w := w) (base := base) (l := l ++ news) (cap := grownCap w (l.length + news.length) cap 5) hbase (by rw [List.length_append]; exact hge) hcm
    rw [List.length_append, bvs_append] at hF
    refine ⟨_, _, hr3, ?_, ⟨rfl, rfl, rfl, by simp, fun k hk _ => heap_alloc_old w.drew _ hk⟩, .inr rfl⟩
    rw [show ((bvs l).toArray ++ (bvs news).toArray) = (bvs l ++ bvs news).toArray from by simp]
    exact hF
theorem wpList_app_gen {P : Program} {ops : Array Oper} {rest : List Oper} {o : Oper} {a : Act} {w : World} {Q : Exit → Act → World → Prop} {s x : Operand} {t u : TypeId} {v y : Value} {R : Value → World → Prop}
    (hgd : o.guard = none) (ho : o.op = .call { callee := .builtin .append, args := #[s, x], argTypes := #[t, u] }) (hs : a.eval s = v) (hx : a.eval x = y)
    (hr : ∃ v' w', (Builtin.append_ #[t, u] o.type #[v, y]).run P w = .ok v' w' ∧ R v' w') (h : ∀ v' w', R v' w' → wpList P ops Q rest (a.put o.dst v') w') : wpList P ops Q (o :: rest) a w := by
  refine wpList_plain hgd fun K hK => ?_
  obtain ⟨v', w', hrun, h2⟩ := hr
  unfold Oper.wp execOp
  simp only [ho, resolve, invoke, builtin, Sem.run_bind, Sem.run_pure, Result.andThen_ok, List.map_toArray, List.map_cons, List.map_nil, hs, hx, hrun]
  exact hK _ _ (h v' w' h2)
theorem appT {ops : Array Oper} {rest : List Oper} {o : Oper} {a : Act} {w : World} {Q : Exit → Act → World → Prop} {s x : Operand} {base B : Nat} {v : Value} {l news : List UInt8} {A : Option Addr} {m c : Nat}
    (hgd : o.guard = none) (ho : o.op = .call { callee := .builtin .append, args := #[s, x], argTypes := #[24, 24] })
    (hs : a.eval s = v) (hx : a.eval x = .slice A m c) (hown : OwnT w base v l) (hr : Reads w B 1 A m (bvs news)) (hbytes : l.length + m ≤ 140737488355328) (hbase : base ≤ w.heap.size)
    (h : ∀ v' w', OwnT w' base v' (l ++ news) → w.grownBy w' v.ownBlock → (v'.ownBlock = v.ownBlock ∨ v'.ownBlock = some w.heap.size) → wpList Tryd.prog ops Q rest (a.put o.dst v') w') : wpList Tryd.prog ops Q (o :: rest) a w :=
  wpList_app_gen hgd ho hs hx (run_appT o.type hown hr hbytes hbase) (fun v' w' hh => h v' w' hh.1 hh.2.1 hh.2.2)
theorem appTs {ops : Array Oper} {rest : List Oper} {o : Oper} {a : Act} {w : World} {Q : Exit → Act → World → Prop} {s x : Operand} {base : Nat} {v : Value} {l news : List UInt8}
    (hgd : o.guard = none) (ho : o.op = .call { callee := .builtin .append, args := #[s, x], argTypes := #[24, 9] })
    (hs : a.eval s = v) (hx : a.eval x = .string ⟨news.toArray⟩) (hown : OwnT w base v l) (hbytes : l.length + news.length ≤ 140737488355328) (hbase : base ≤ w.heap.size)
    (h : ∀ v' w', OwnT w' base v' (l ++ news) → w.grownBy w' v.ownBlock → (v'.ownBlock = v.ownBlock ∨ v'.ownBlock = some w.heap.size) → wpList Tryd.prog ops Q rest (a.put o.dst v') w') : wpList Tryd.prog ops Q (o :: rest) a w :=
  wpList_app_gen hgd ho hs hx (run_appTs o.type hown hbytes hbase) (fun v' w' hh => h v' w' hh.1 hh.2.1 hh.2.2)
/-- What a string's conversion leaves. -/
theorem ownT_bytes (w : World) (l : List UInt8) (hl : l.length ≤ maxLen) : OwnT (Lib.bytesWorld w 5 ⟨l.toArray⟩) w.heap.size (.slice (some ⟨w.heap.size, 0, none⟩) (⟨l.toArray⟩ : ByteArray).size (grownCap w (⟨l.toArray⟩ : ByteArray).size 0 5)) l := by
  have hsz : (⟨l.toArray⟩ : ByteArray).size = l.length := by simp [ByteArray.size]
  have hge := grownCap_ge w l.length 0 5
  have hcm := grownCap_le_maxLen w l.length 0 5 hl
  have hcs : (Lib.bytesCells w 5 ⟨l.toArray⟩).size = grownCap w l.length 0 5 := by
    simp only [Lib.bytesCells, Array.size_append, Array.size_map, Array.size_replicate, hsz]
    have h3 : (⟨l.toArray⟩ : ByteArray).data.size = l.length := by simp
    have h4 : l.toArray.size = l.length := by simp
    omega
  refine ⟨w.heap.size, grownCap w l.length 0 5, _, _, by rw [hsz], Nat.le_refl _, Lib.bytesWorld_at_new w _ _, .inr (by rw [hcs]; exact Nat.le_refl _), hge, hcm, hcs, ?_⟩
  simp only [Lib.bytesCells, Array.toList_append, Array.toList_map]
  have h2 : (List.map (fun b : UInt8 => Value.int .u8 (b.toNat : Int)) l.toArray.toList).length = l.length := by simp
  show List.take l.length (List.map (fun b : UInt8 => Value.int .u8 (b.toNat : Int)) l.toArray.toList ++ _) = bvs l
  rw [List.take_append_of_le_length (by rw [h2]; exact Nat.le_refl _), List.take_of_length_le (by rw [h2]; exact Nat.le_refl _)]
  simp [bvs, bv]
end Go.Proofs.YtjichadkonlfpaaDoor

namespace Go.Proofs.YtjichadkonlfpaaDoor
open Go.RowKit
def reasons : List (Int × List UInt8) := [(200, [79, 75]), (202, [65, 99, 99, 101, 112, 116, 101, 100]), (400, [66, 97, 100, 32, 82, 101, 113, 117, 101, 115, 116]), (404, [78, 111, 116, 32, 70, 111, 117, 110, 100]),
  (405, [77, 101, 116, 104, 111, 100, 32, 78, 111, 116, 32, 65, 108, 108, 111, 119, 101, 100]), (409, [67, 111, 110, 102, 108, 105, 99, 116]), (413, [67, 111, 110, 116, 101, 110, 116, 32, 84, 111, 111, 32, 76, 97, 114, 103, 101]),
  (429, [84, 111, 111, 32, 77, 97, 110, 121, 32, 82, 101, 113, 117, 101, 115, 116, 115]), (431, [82, 101, 113, 117, 101, 115, 116, 32, 72, 101, 97, 100, 101, 114, 32, 70, 105, 101, 108, 100, 115, 32, 84, 111, 111, 32, 76, 97, 114, 103, 101]),
  (503, [83, 101, 114, 118, 105, 99, 101, 32, 85, 110, 97, 118, 97, 105, 108, 97, 98, 108, 101])]
def reasonP (st : Int) : List UInt8 := (reasons.lookup st).getD [85, 110, 107, 110, 111, 119, 110]
theorem reasonP_len (st : Int) : (reasonP st).length ≤ 40 := by
  unfold reasonP reasons
  simp only [List.lookup_cons]
  repeat' split
  all_goals simp
theorem reason_other {st : Int} (h : ∀ p ∈ reasons, st ≠ p.1) : reasonP st = [85, 110, 107, 110, 111, 119, 110] := by
  unfold reasonP
  have : reasons.lookup st = none := by
    rw [List.lookup_eq_none_iff]
    intro p hp
    simpa using h p hp
  rw [this]; rfl
set_option maxRecDepth 100000 in
set_option maxHeartbeats 1000000 in
theorem reason_any (st : Int) (w : World) : Calls Tryd.prog 19 #[.int .i64 st] w fun e w' => e = .returned (.string ⟨(reasonP st).toArray⟩) ∧ w' = w := by
  by_cases h : ∀ p ∈ reasons, st ≠ p.1
  · rw [reason_other h]
    simp only [reasons, List.forall_mem_cons, List.not_mem_nil, false_implies, implies_true, and_true] at h
    obtain ⟨a0, a1, a2, a3, a4, a5, a6, a7, a8, a9⟩ := h
    have b0 : (st == 200) = false := by simpa using a0
    have b1 : (st == 202) = false := by simpa using a1
    have b2 : (st == 400) = false := by simpa using a2
    have b3 : (st == 404) = false := by simpa using a3
    have b4 : (st == 405) = false := by simpa using a4
    have b5 : (st == 409) = false := by simpa using a5
    have b6 : (st == 413) = false := by simpa using a6
    have b7 : (st == 429) = false := by simpa using a7
    have b8 : (st == 431) = false := by simpa using a8
    have b9 : (st == 503) = false := by simpa using a9
    clear a0 a1 a2 a3 a4 a5 a6 a7 a8 a9
    go_enter Tryd.func19, Tryd.ntmps19
    go_wp2
    go_ret
    exact ⟨rfl, rfl⟩
  · simp only [reasons, List.forall_mem_cons, List.not_mem_nil, false_implies, implies_true, and_true, Classical.not_and_iff_not_or_not, ne_eq, Classical.not_not] at h
    rcases h with rfl | rfl | rfl | rfl | rfl | rfl | rfl | rfl | rfl | rfl
    all_goals
      go_enter Tryd.func19, Tryd.ntmps19
      go_wp2
      go_ret
      exact ⟨rfl, rfl⟩
set_option maxRecDepth 100000 in
set_option maxHeartbeats 1000000 in
theorem rReason_any (st : Int) (w : World) : Calls Tryd.prog 20 #[.int .i64 st] w fun e w' => e = .returned (.string ⟨(reasonP st).toArray⟩) ∧ w' = w := by
  by_cases h : ∀ p ∈ reasons, st ≠ p.1
  · rw [reason_other h]
    simp only [reasons, List.forall_mem_cons, List.not_mem_nil, false_implies, implies_true, and_true] at h
    obtain ⟨a0, a1, a2, a3, a4, a5, a6, a7, a8, a9⟩ := h
    have b0 : (st == 200) = false := by simpa using a0
    have b1 : (st == 202) = false := by simpa using a1
    have b2 : (st == 400) = false := by simpa using a2
    have b3 : (st == 404) = false := by simpa using a3
    have b4 : (st == 405) = false := by simpa using a4
    have b5 : (st == 409) = false := by simpa using a5
    have b6 : (st == 413) = false := by simpa using a6
    have b7 : (st == 429) = false := by simpa using a7
    have b8 : (st == 431) = false := by simpa using a8
    have b9 : (st == 503) = false := by simpa using a9
    clear a0 a1 a2 a3 a4 a5 a6 a7 a8 a9
    go_enter Tryd.func20, Tryd.ntmps20
    go_wp2
    go_ret
    exact ⟨rfl, rfl⟩
  · simp only [reasons, List.forall_mem_cons, List.not_mem_nil, false_implies, implies_true, and_true, Classical.not_and_iff_not_or_not, ne_eq, Classical.not_not] at h
    rcases h with rfl | rfl | rfl | rfl | rfl | rfl | rfl | rfl | rfl | rfl
    all_goals
      go_enter Tryd.func20, Tryd.ntmps20
      go_wp2
      go_ret
      exact ⟨rfl, rfl⟩
end Go.Proofs.YtjichadkonlfpaaDoor

namespace Go.Proofs.YtjichadkonlfpaaDoor
open Go.RowKit
theorem bapp (a b : List UInt8) : (⟨a.toArray⟩ : ByteArray) ++ ⟨b.toArray⟩ = ⟨(a ++ b).toArray⟩ := by
  apply ByteArray.ext
  simp
def ddP (m : Nat) : List UInt8 := if m = 0 then [] else Lib.decDigits m
theorem ddP_step {m : Nat} (h : 0 < m) : ddP m = ddP (m / 10) ++ [UInt8.ofNat (48 + m % 10)] := by
  unfold ddP
  rw [if_neg (by omega), Lib.decDigits]
  split
  · rename_i h10
    rw [if_pos (by omega), Nat.mod_eq_of_lt h10]
    rfl
  · rename_i h10
    rw [if_neg (by omega)]
def DecI (n m : Nat) (r : List UInt8) : Prop := (r = [] ∧ m = n) ∨ (r ≠ [] ∧ Lib.decDigits n = ddP m ++ r)
theorem DecI.step {n m : Nat} {r : List UInt8} (h : DecI n m r) (hc : 0 < m ∨ r = []) : DecI n (m / 10) (UInt8.ofNat (48 + m % 10) :: r) := by
  refine .inr ⟨by simp, ?_⟩
  rcases h with ⟨rfl, rfl⟩ | ⟨h1, h2⟩
  · rcases Nat.eq_zero_or_pos m with h0 | h0
    · subst h0; simp [ddP, Lib.decDigits]
    · have := ddP_step h0
      rw [← this]
      unfold ddP
      rw [if_neg (by omega)]
  · rcases hc with hc | hc
    · rw [h2, ddP_step hc, List.append_assoc]; rfl
    · exact absurd hc h1
theorem DecI.done {n m : Nat} {r : List UInt8} (h : DecI n m r) (hm : m = 0) (hr : r ≠ []) : r = Lib.decDigits n := by
  rcases h with ⟨h1, _⟩ | ⟨_, h2⟩
  · exact absurd h1 hr
  · rw [h2, hm]; rfl
theorem bytes_empty (r : List UInt8) : (⟨r.toArray⟩ : ByteArray).toList.isEmpty = r.isEmpty := by rw [ByteArray.toList_eq]
set_option maxRecDepth 100000 in
set_option maxHeartbeats 1000000 in
theorem decimal_any (n : Nat) (hn : n ≤ 140737488355328) (w : World) : Calls Tryd.prog 11 #[.int .i64 (n : Int)] w fun e w' => e = .returned (.string ⟨(Lib.decDigits n).toArray⟩) ∧ Below w.heap.size w w' := by
  go_enter Tryd.func11, Tryd.ntmps11
  go_wp2
  go_loopw [0, 3] (fun i s wr => ∃ (m : Nat) (sv : ByteArray) (r : List UInt8), i = .int .i64 (m : Int) ∧ s = .string sv ∧ m ≤ n ∧ sv.size + m ≤ n + 1 ∧ Hid (sv = ⟨r.toArray⟩ ∧ DecI n m r ∧ Below w.heap.size w wr)) (fun i s _ => (intOf i).toNat + (match s with | .string sv => if sv.size = 0 then 1 else 0 | _ => 0))
  case atStart => exact ⟨n, _, [], rfl, rfl, Nat.le_refl _, by show 0 + n ≤ n + 1; omega, rfl, .inl ⟨rfl, rfl⟩, Below.refl _ _⟩
  case round =>
    obtain ⟨m, sv, r, rfl, rfl, hm, hb, hO⟩ := hrel
    have hb1 : ¬ (9223372036854775807 < 1 + sv.size) := by omega
    have HBND := Lib.hid hb
    clear hb
    have hmI : (m : Int) ≤ 140737488355328 := by omega
    have hm0 : (0 : Int) ≤ (m : Int) := by omega
    have hem : sv.toList.isEmpty = r.isEmpty := by rw [hO.out.1]; exact bytes_empty r
    have hsz : sv.size = r.length := by rw [hO.out.1]; simp [ByteArray.size]
    by_cases hc : 0 < m ∨ r = []
    · have ST := Lib.hid (hO.out.2.1.step hc)
      have d0 : (0 : Int) ≤ (m : Int) % 10 := by omega
      have d1 : (m : Int) % 10 ≤ 9 := by omega
      obtain ⟨d, hd⟩ : ∃ d : UInt8, d = UInt8.ofNat (48 + m % 10) := ⟨_, rfl⟩
      have hdn : (d.toNat : Int) = 48 + (m : Int) % 10 := by rw [hd]; simp; omega
      rw [← hd] at ST
      have RS : Hid (∀ w1 : World, (convert 24 9 (.slice (some ⟨w1.heap.size, 0, none⟩) 1 1)).run Tryd.prog (w1.alloc (.cells #[.int .u8 (48 + (m : Int) % 10)] 5)) = .ok (.string ⟨[d].toArray⟩) (w1.alloc (.cells #[.int .u8 (48 + (m : Int) % 10)] 5))) := by
        intro w1
        rw [← hdn]
        exact run_str8 (reads_block (l := [d]) (n := 1) (heap_alloc_new w1 _) rfl) 1
      have rs := RS.out wr
      have HN := Lib.hid hm
      have HC := Lib.hid hc
      have HS := Lib.hid hsz
      have HB : Hid (Below w.heap.size w (wr.alloc (.cells #[.int .u8 (48 + (m : Int) % 10)] 5))) := hO.out.2.2.alloc hO.out.2.2.size _
      have g0 : True := trivial
      clear hd hdn hm hsz hmI
      have hmI : (m : Int) ≤ 140737488355328 := by have := HN.out; omega
      by_cases hp : 0 < m
      · have g1 : decide ((0 : Int) < (m : Int)) = true := by simp; omega
        have HP := Lib.hid hp
        clear hc hem
        go_wp2
        go_roundw
        case rel => exact ⟨m / 10, _, d :: r, by go_num, rfl, by have := HN.out; omega, by have := HBND.out; have := HP.out; rw [ByteArray.size_append]; show 1 + sv.size + m / 10 ≤ n + 1; omega, by rw [hO.out.1]; exact bapp [d] r, ST.out, HB.out⟩
        case measure =>
          have h1 := HP.out
          have h2 : (⟨[d].toArray⟩ ++ sv : ByteArray).size = 1 + sv.size := by rw [ByteArray.size_append]; rfl
          show (m / 10 : Int).toNat + (if (⟨[d].toArray⟩ ++ sv : ByteArray).size = 0 then 1 else 0) < (m : Int).toNat + (if sv.size = 0 then 1 else 0)
          rw [h2, if_neg (by omega)]
          omega
      · have hz : m = 0 := by omega
        have hr : r = [] := by rcases hc with h | h; omega; exact h
        subst hz hr
        have rs48 : (convert 24 9 (.slice (some ⟨wr.heap.size, 0, none⟩) 1 1)).run Tryd.prog (wr.alloc (.cells #[.int .u8 48] 5)) = .ok (.string ⟨[d].toArray⟩) (wr.alloc (.cells #[.int .u8 48] 5)) := rs
        have hem' : sv.toList.isEmpty = true := hem
        have RS48 := Lib.hid rs48
        clear rs hc hp g0 hem rs48
        have rs48 := RS48.out
        go_wp2
        go_roundw
        case rel => exact ⟨0, _, d :: [], by go_num, rfl, Nat.zero_le _, by have h1 : sv.size = 0 := HS.out; rw [ByteArray.size_append]; show 1 + sv.size + 0 ≤ n + 1; omega, by rw [hO.out.1]; exact bapp [d] [], ST.out, HB.out⟩
        case measure =>
          have h1 : sv.size = 0 := HS.out
          have h2 : (⟨[d].toArray⟩ ++ sv : ByteArray).size = 1 + sv.size := by rw [ByteArray.size_append]; rfl
          show (0 : Int).toNat + (if (⟨[d].toArray⟩ ++ sv : ByteArray).size = 0 then 1 else 0) < (0 : Int).toNat + (if sv.size = 0 then 1 else 0)
          rw [h2, if_neg (by omega), if_pos h1]
          omega
    · have h1 : m = 0 := by omega
      have h2 : r ≠ [] := fun h => hc (.inr h)
      have h3 : sv.toList.isEmpty = false := by rw [hem]; cases r with | nil => exact absurd rfl h2 | cons a r => rfl
      have HD := Lib.hid (hO.out.2.1.done h1 h2)
      subst h1
      clear hc h2 hem hsz
      go_wp2
      go_ret
      exact ⟨by rw [← HD.out, ← hO.out.1]; rfl, hO.out.2.2⟩
end Go.Proofs.YtjichadkonlfpaaDoor

namespace Go.Proofs.YtjichadkonlfpaaDoor
open Go.RowKit
abbrev Pow10 (w : World) : Prop := Lib.TabIs Tryd.prog w "internal/strconv.uint64pow10" .u64 Lib.pow10Tab
theorem tab_below {w w' : World} (h : Pow10 w) (hb : Below w.heap.size w w') : Pow10 w' := by
  unfold Pow10 Lib.TabIs World.var? at h ⊢
  cases hgn : Tryd.prog.globalNamed "internal/strconv.uint64pow10" with
  | none => rw [hgn] at h; cases h
  | some g =>
    rw [hgn] at h
    simp only [Option.bind_some] at h ⊢
    have hlt : g < w.heap.size := by
      rcases Nat.lt_or_ge g w.heap.size with h' | h'
      · exact h'
      · rw [Array.getElem?_eq_none h'] at h; cases h
    rw [hb.block g hlt]
    exact h
theorem below_sgrow (w : World) (k : Nat) (os : Array Obj) : Below w.heap.size w (Sort.grow (w.drewN k) os) := by
  refine ⟨rfl, rfl, rfl, ?_, fun j hj => ?_⟩
  · rw [Sort.size_grow]; exact Nat.le_add_right _ _
  · show (w.heap ++ os)[j]? = _
    rw [Array.getElem?_append_left hj]
theorem digits3 : ∀ n : Fin 1000, Lib.decDigits (1000 + n.val) = [49, UInt8.ofNat (48 + n.val / 100), UInt8.ofNat (48 + n.val / 10 % 10), UInt8.ofNat (48 + n.val % 10)] := by decide +kernel
def codeP (n : Nat) : List UInt8 := [UInt8.ofNat (48 + n / 100), UInt8.ofNat (48 + n / 10 % 10), UInt8.ofNat (48 + n % 10)]
theorem itoa_nat (n : Nat) : Lib.itoa (n : Int) = Lib.decDigits n := by
  unfold Lib.itoa
  rw [if_neg (by omega)]
  rfl
theorem itoa_any (n : Nat) (hn : n ≤ 140737488355328) (w : World) (ht : Pow10 w) : Calls Tryd.prog 18 #[.int .i64 (n : Int)] w fun e w' => e = .returned (.string ⟨(Lib.decDigits n).toArray⟩) ∧ Below w.heap.size w w' := by
  refine (Tryd.strconv_Itoa (n : Int) (by omega) (by omega) w ht).mono ?_
  rintro e w' ⟨rfl, k, os, rfl⟩
  exact ⟨by rw [itoa_nat], below_sgrow w k os⟩
theorem decDigits_len : ∀ (k n : Nat), n < 10 ^ (k + 1) → (Lib.decDigits n).length ≤ k + 1
  | 0, n, h => by rw [Lib.decDigits, dif_pos (by omega)]; simp
  | k + 1, n, h => by
    rw [Lib.decDigits]
    split
    · simp
    · have h2 : n / 10 < 10 ^ (k + 1) := by rw [Nat.pow_succ] at h; omega
      have := decDigits_len k (n / 10) h2
      simp only [List.length_append, List.length_cons, List.length_nil]
      omega
def preP (n : Nat) (st : Int) (m : Nat) : List UInt8 := [72, 84, 84, 80, 47, 49, 46, 49, 32] ++ codeP n ++ [32] ++ reasonP st ++ [13, 10, 99, 111, 110, 116, 101, 110, 116, 45, 108, 101, 110, 103, 116, 104, 58, 32] ++ Lib.decDigits m ++ [13, 10]
def closeL : List UInt8 := [99, 111, 110, 110, 101, 99, 116, 105, 111, 110, 58, 32, 99, 108, 111, 115, 101, 13, 10]
def respP (n : Nat) (st : Int) (l : List UInt8) (cl : Bool) : List UInt8 := preP n st l.length ++ (if cl then closeL else []) ++ [13, 10] ++ l
/-- The number of a status. -/
def codeN (st : Int) : Nat := (max (st.tmod 1000) (-(st.tmod 1000))).toNat
theorem codeN_lt (st : Int) : codeN st < 1000 := by
  have h1 := Int.tmod_lt_of_pos st (b := 1000) (by decide)
  have h2 := Int.lt_tmod_of_pos st (b := 1000) (by decide)
  unfold codeN
  omega
theorem preP_len (st : Int) (m : Nat) (hm : m ≤ 140737488351232) : (preP (codeN st) st m).length ≤ 200 := by
  have h1 := reasonP_len st
  have h2 := decDigits_len 15 m (by omega)
  simp only [preP, List.length_append, List.length_cons, List.length_nil, codeP]
  omega
def RPost (l : List UInt8) (w : World) (e : Ending) (w' : World) : Prop := ∃ A c, e = .returned (.slice A l.length c) ∧ Reads w' w'.heap.size 1 A l.length (bvs l) ∧ Below w.heap.size w w'
end Go.Proofs.YtjichadkonlfpaaDoor
