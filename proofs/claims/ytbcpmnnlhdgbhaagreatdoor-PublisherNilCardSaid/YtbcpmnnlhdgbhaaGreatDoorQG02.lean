/- The texts Z3 of this work, merged by wip/merge.py. No conditions. -/
import Derived.Test.YtbcpmnnlhdgbhaaGreatDoorQG01
import Derived.Deep.DeepMust
namespace Go.Proofs.YtbcpmnnlhdgbhaaGreatDoor
open Go.RowKit
/-- Cells written into a block that is not marked. -/
theorem run_storeCells_in (P : Program) (g o : Nat) (t : TypeId) : ∀ (vs : List Value) (i : Nat) (cur : Array Value) (w : World), w.heap[g]? = some (.cells cur t (0, 0)) → o + i + vs.length ≤ cur.size → (∀ u ∈ vs, u.oneCell' = true) →
    (storeCells ⟨g, o, none⟩ vs i).run P w = .ok () (w.setRow g (cur.toList.take (o + i) ++ vs ++ cur.toList.drop (o + i + vs.length)).toArray)
  | [], i, cur, w, hg, _, _ => by
    simp only [storeCells, List.append_nil, List.length_nil, Nat.add_zero, List.take_append_drop, Array.toArray_toList]
    rw [setRow_self w g cur t (0, 0) hg]
    rfl
  | v :: rest, i, cur, w, hg, hl, h1 => by
    have hi : o + i < cur.size := by simp at hl; omega
    have hadd : (⟨g, o, none⟩ : Addr).add i = ⟨g, o + i, none⟩ := add_none g o i
    have hcell : w.cell? ⟨g, o + i, none⟩ = some cur[o + i] := by simp [World.cell?, hg, hi]
    have hfro : w.frozen? ⟨g, o + i, none⟩ = false := by
      simp only [World.frozen?, hg, Bool.and_eq_false_iff, decide_eq_false_iff_not]
      omega
    have hst : (store ((⟨g, o, none⟩ : Addr).add i) v).run P w = .ok () (w.setRow g (cur.setIfInBounds (o + i) v)) := by
      rw [hadd, run_store P w _ v _ (h1 v (by simp)), hcell]
      simp [hfro, setCell_eq_setRow w g (o + i) cur t (0, 0) v hg]
    have ih := run_storeCells_in P g o t rest (i + 1) (cur.setIfInBounds (o + i) v) (w.setRow g (cur.setIfInBounds (o + i) v)) (setRow_heap w g cur _ t _ hg) (by simp at hl ⊢; omega) (fun x hx => h1 x (by simp [hx]))
    simp only [storeCells, Sem.run_bind, hst, Result.andThen_ok, ih, setRow_setRow]
    congr 3
    have e := list_seg_step cur.toList (o + i) v rest (by simp at hl ⊢; omega)
    simpa [Array.toList_setIfInBounds, Nat.add_assoc] using e
/-- What a row reads behind bytes written from n on. -/
def overL (cur : Array Value) (n : Nat) (l : List UInt8) : Array Value := (cur.toList.take n ++ bvs l ++ cur.toList.drop (n + l.length)).toArray
theorem overL_size (cur : Array Value) (n : Nat) (l : List UInt8) (h : n + l.length ≤ cur.size) : (overL cur n l).size = cur.size := by
  unfold overL
  simp only [List.size_toArray, List.length_append, List.length_take, List.length_drop, Array.length_toList, bvs_length]
  omega
theorem overL_nil (cur : Array Value) (n : Nat) : overL cur n [] = cur := by
  unfold overL
  simp [bvs]
theorem overL_snoc (cur : Array Value) (n : Nat) (l m : List UInt8) (h : n + l.length + m.length ≤ cur.size) : overL (overL cur n l) (n + l.length) m = overL cur n (l ++ m) := by
  have hlen : (cur.toList.take n).length = n := by rw [List.length_take, Array.length_toList]; omega
  have h1 : (cur.toList.take n ++ bvs l).length = n + l.length := by rw [List.length_append, hlen, bvs_length]
  unfold overL
  congr 1
  have e1 : (cur.toList.take n ++ bvs l ++ cur.toList.drop (n + l.length)).take (n + l.length) = cur.toList.take n ++ bvs l := by
    rw [← h1]; exact List.take_left
  have e2 : (cur.toList.take n ++ bvs l ++ cur.toList.drop (n + l.length)).drop (n + l.length + m.length) = cur.toList.drop (n + (l ++ m).length) := by
    rw [← List.drop_drop, ← h1, List.drop_left, h1, List.drop_drop, List.length_append, Nat.add_assoc]
  rw [e1, e2, bvs_append, List.append_assoc (cur.toList.take n)]
theorem run_appIn {w : World} {B g n cap m c : Nat} {cur : Array Value} {t : TypeId} {ad : Addr} {news : List UInt8} (ty : TypeId) (hg : w.heap[g]? = some (.cells cur t (0, 0))) (hr : Reads w B 1 (some ad) m (bvs news)) (hroom : n + m ≤ cap) (hcap : cap ≤ cur.size) :
    (Builtin.append_ #[96, 96] ty #[.slice (some ⟨g, 0, none⟩) n cap, .slice (some ad) m c]).run Tryz.prog w = .ok (.slice (some ⟨g, 0, none⟩) (n + m) cap) (w.setRow g (overL cur n news)) := by
  obtain ⟨i0, hi0, hz0, hz1, hz2⟩ := info_parts u8info
  have hm : m = news.length := by have := hr.1; rw [bvs_length] at this; omega
  subst hm
  have hcells : ∀ j u, (bvs news)[j]? = some u → w.cell? (ad.add j) = some u := by
    intro j u hu
    rcases Nat.eq_zero_or_pos news.length with h0 | h0
    · have h3 := List.eq_nil_of_length_eq_zero h0
      subst h3
      simp [bvs] at hu
    · obtain ⟨ad', h, _, hc⟩ := hr.2 h0
      cases h
      exact hc j u hu
  have hf := run_firstCells_some (P := Tryz.prog) w i0.size news.length ad news.length c (bvs news) (by rw [hz1, bvs_length, Nat.mul_one]) hcells
  have hst := run_storeCells_in Tryz.prog g n t (bvs news) 0 cur w hg (by rw [bvs_length]; omega) (bvs_one _)
  simp only [Nat.add_zero, bvs_length] at hst
  unfold overL
  simp [Builtin.append_, run_underlying Tryz.underlying96, sizeOf, typeInfo, hi0, hz1, Builtin.lenOf, hroom, Addr.add_lit]
  rw [hz1] at hf
  simp [hf, hst]
theorem appIn {ops : Array Oper} {rest : List Oper} {o : Oper} {a : Act} {w : World} {Q : Exit → Act → World → Prop} {s x : Operand} {B g n cap m c : Nat} {cur : Array Value} {t : TypeId} {ad : Addr} {news : List UInt8}
    (hgd : o.guard = none) (ho : o.op = .call { callee := .builtin .append, args := #[s, x], argTypes := #[96, 96] }) (hs : a.eval s = .slice (some ⟨g, 0, none⟩) n cap) (hx : a.eval x = .slice (some ad) m c)
    (hg : w.heap[g]? = some (.cells cur t (0, 0))) (hr : Reads w B 1 (some ad) m (bvs news)) (hroom : n + m ≤ cap) (hcap : cap ≤ cur.size)
    (h : wpList Tryz.prog ops Q rest (a.put o.dst (.slice (some ⟨g, 0, none⟩) (n + m) cap)) (w.setRow g (overL cur n news))) : wpList Tryz.prog ops Q (o :: rest) a w := by
  refine wpList_plain hgd fun K hK => ?_
  have h2 := hK _ _ h
  have hrun := run_appIn (c := c) o.type hg hr hroom hcap
  unfold Oper.wp execOp
  simp only [ho, resolve, invoke, builtin, Sem.run_bind, Sem.run_pure, Result.andThen_ok, List.map_toArray, List.map_cons, List.map_nil, hs, hx, hrun]
  exact h2
def byteI (y : Int) : UInt8 := UInt8.ofNat (y % 256).toNat
theorem byteI_val (y : Int) : ((byteI y).toNat : Int) = IntKind.u8.wrap y := by
  have h0 := Int.emod_nonneg y (show (256 : Int) ≠ 0 by decide)
  have h1 := Int.emod_lt_of_pos y (show (0 : Int) < 256 by decide)
  unfold byteI
  rw [UInt8.toNat_ofNat', Nat.mod_eq_of_lt (by omega), Int.toNat_of_nonneg h0]
  unfold IntKind.wrap
  rw [if_neg (by simp [IntKind.signed])]
  rfl
/-- The first k bytes of a number of so many bytes. -/
def appB (x : Int) (size k : Nat) : List UInt8 := (List.range k).map fun j => byteI (x / ((2 ^ (8 * (size - 1 - j)) : Nat) : Int))
theorem appB_len (x : Int) (size k : Nat) : (appB x size k).length = k := by simp [appB]
theorem appB_snoc (x : Int) (size k : Nat) : appB x size (k + 1) = appB x size k ++ [byteI (x / ((2 ^ (8 * (size - 1 - k)) : Nat) : Int))] := by
  unfold appB; rw [List.range_succ, List.map_append]; rfl
/-- A row of the call's own, and all else as it was. -/
def RowIn (w : World) (g : Nat) (t : TypeId) (cur : Array Value) (w' : World) : Prop := w'.heap[g]? = some (.cells cur t (0, 0)) ∧ w.grownBy w' (some g)
theorem lt_heap {w : World} {k : Nat} {o : Obj} (h : w.heap[k]? = some o) : k < w.heap.size := by
  rcases Nat.lt_or_ge k w.heap.size with h' | h'
  · exact h'
  · rw [Array.getElem?_eq_none h'] at h; cases h
theorem RowIn.alloc {w w' : World} {g : Nat} {t : TypeId} {cur : Array Value} (h : RowIn w g t cur w') (o : Obj) : RowIn w g t cur (w'.alloc o) := by
  refine ⟨(heap_alloc_old w' o (lt_heap h.1)).trans h.1, ⟨h.2.os, h.2.tape, h.2.output, Nat.le_trans h.2.size (by simp), fun k hk hne => ?_⟩⟩
  exact (heap_alloc_old w' o (Nat.lt_of_lt_of_le hk h.2.size)).trans (h.2.block k hk hne)
theorem RowIn.set {w w' : World} {g : Nat} {t : TypeId} {cur cur' : Array Value} (h : RowIn w g t cur w') : RowIn w g t cur' (w'.setRow g cur') := by
  refine ⟨setRow_heap w' g cur cur' t (0, 0) h.1, ⟨h.2.os, h.2.tape, h.2.output, by simpa using h.2.size, fun k hk hne => ?_⟩⟩
  rw [setRow_other w' g k _ (fun e => hne (by rw [e]))]
  exact h.2.block k hk hne
set_option maxRecDepth 100000 in
set_option maxHeartbeats 2000000 in
theorem appended4 (g n cap : Nat) (t : TypeId) (cur : Array Value) (x : Int) (w : World) (hg : w.heap[g]? = some (.cells cur t (0, 0))) (hroom : n + 4 ≤ cap) (hcap : cap ≤ cur.size) :
    Calls Tryz.prog 128 #[.slice (some ⟨g, 0, none⟩) n cap, .int .u64 x, .int .i64 4] w fun e w' => e = .returned (.slice (some ⟨g, 0, none⟩) (n + 4) cap) ∧ RowIn w g t (overL cur n (appB x 4 4)) w' := by
  have HG := Lib.hid hg
  have HR := Lib.hid hroom
  have HC := Lib.hid hcap
  have T0 : Hid True := trivial
  clear hg
  go_enter Tryz.func128, Tryz.ntmps128
  go_wp2
  go_loopw [0, 7] (fun b i wr => ∃ k : Nat, k ≤ 4 ∧ i = .int .i64 (3 - (k : Int)) ∧ b = .slice (some ⟨g, 0, none⟩) (n + k) cap ∧ Hid (RowIn w g t (overL cur n (appB x 4 k)) wr)) (fun _ i _ => (intOf i + 1).toNat)
  case atStart => exact ⟨0, Nat.zero_le _, rfl, rfl, by show RowIn _ _ _ _ _; rw [show appB x 4 0 = [] from rfl, overL_nil]; exact ⟨HG.out, World.grownBy.refl w _⟩⟩
  case round =>
    obtain ⟨k, hk, rfl, rfl, hO⟩ := hrel
    obtain rfl | rfl | rfl | rfl | rfl : k = 0 ∨ k = 1 ∨ k = 2 ∨ k = 3 ∨ k = 4 := by omega
    · have WX : Hid (bvs [byteI (x / 16777216)] = [.int .u8 (IntKind.u8.wrap (x / 16777216))]) := by show _ = _; rw [← byteI_val]; rfl
      have SN : Hid (appB x 4 (0 + 1) = appB x 4 0 ++ [byteI (x / 16777216)]) := by show _ = _; rw [appB_snoc]; rfl
      have glt : Hid (g < wr.heap.size) := lt_heap hO.out.1
      have HO := Lib.hid hO.out
      clear hO
      go_wp2_with (at_builtin; go_must (refine appIn (n := n + 0) (m := 1) (B := wr.heap.size + 1) (news := [byteI (x / 16777216)]) (cur := overL cur n (appB x 4 0)) (t := t) rfl rfl rfl rfl ((heap_alloc_old wr _ glt.out).trans HO.out.1) (by rw [WX.out]; exact reads_new wr _ _ 1 rfl) (by have := HR.out; omega) (by rw [overL_size _ _ _ (by rw [appB_len]; have := HR.out; have := HC.out; omega)]; exact HC.out) ?_))
      go_roundw
      case rel => exact ⟨0 + 1, by omega, by go_num, rfl, by have h_ := (RowIn.alloc HO.out (.cells #[.int .u8 (IntKind.u8.wrap (x / 16777216))] 5)).set (cur' := overL cur n (appB x 4 (0 + 1))); rw [SN.out, ← overL_snoc _ _ _ _ (by rw [appB_len]; have := HR.out; have := HC.out; simp; omega), appB_len]; rw [SN.out, ← overL_snoc _ _ _ _ (by rw [appB_len]; have := HR.out; have := HC.out; simp; omega), appB_len] at h_; exact h_⟩
      case measure => simp [intOf]
    · have WX : Hid (bvs [byteI (x / 65536)] = [.int .u8 (IntKind.u8.wrap (x / 65536))]) := by show _ = _; rw [← byteI_val]; rfl
      have SN : Hid (appB x 4 (1 + 1) = appB x 4 1 ++ [byteI (x / 65536)]) := by show _ = _; rw [appB_snoc]; rfl
      have glt : Hid (g < wr.heap.size) := lt_heap hO.out.1
      have HO := Lib.hid hO.out
      clear hO
      go_wp2_with (at_builtin; go_must (refine appIn (n := n + 1) (m := 1) (B := wr.heap.size + 1) (news := [byteI (x / 65536)]) (cur := overL cur n (appB x 4 1)) (t := t) rfl rfl rfl rfl ((heap_alloc_old wr _ glt.out).trans HO.out.1) (by rw [WX.out]; exact reads_new wr _ _ 1 rfl) (by have := HR.out; omega) (by rw [overL_size _ _ _ (by rw [appB_len]; have := HR.out; have := HC.out; omega)]; exact HC.out) ?_))
      go_roundw
      case rel => exact ⟨1 + 1, by omega, by go_num, rfl, by have h_ := (RowIn.alloc HO.out (.cells #[.int .u8 (IntKind.u8.wrap (x / 65536))] 5)).set (cur' := overL cur n (appB x 4 (1 + 1))); rw [SN.out, ← overL_snoc _ _ _ _ (by rw [appB_len]; have := HR.out; have := HC.out; simp; omega), appB_len]; rw [SN.out, ← overL_snoc _ _ _ _ (by rw [appB_len]; have := HR.out; have := HC.out; simp; omega), appB_len] at h_; exact h_⟩
      case measure => simp [intOf]
    · have WX : Hid (bvs [byteI (x / 256)] = [.int .u8 (IntKind.u8.wrap (x / 256))]) := by show _ = _; rw [← byteI_val]; rfl
      have SN : Hid (appB x 4 (2 + 1) = appB x 4 2 ++ [byteI (x / 256)]) := by show _ = _; rw [appB_snoc]; rfl
      have glt : Hid (g < wr.heap.size) := lt_heap hO.out.1
      have HO := Lib.hid hO.out
      clear hO
      go_wp2_with (at_builtin; go_must (refine appIn (n := n + 2) (m := 1) (B := wr.heap.size + 1) (news := [byteI (x / 256)]) (cur := overL cur n (appB x 4 2)) (t := t) rfl rfl rfl rfl ((heap_alloc_old wr _ glt.out).trans HO.out.1) (by rw [WX.out]; exact reads_new wr _ _ 1 rfl) (by have := HR.out; omega) (by rw [overL_size _ _ _ (by rw [appB_len]; have := HR.out; have := HC.out; omega)]; exact HC.out) ?_))
      go_roundw
      case rel => exact ⟨2 + 1, by omega, by go_num, rfl, by have h_ := (RowIn.alloc HO.out (.cells #[.int .u8 (IntKind.u8.wrap (x / 256))] 5)).set (cur' := overL cur n (appB x 4 (2 + 1))); rw [SN.out, ← overL_snoc _ _ _ _ (by rw [appB_len]; have := HR.out; have := HC.out; simp; omega), appB_len]; rw [SN.out, ← overL_snoc _ _ _ _ (by rw [appB_len]; have := HR.out; have := HC.out; simp; omega), appB_len] at h_; exact h_⟩
      case measure => simp [intOf]
    · have WX : Hid (bvs [byteI (x)] = [.int .u8 (IntKind.u8.wrap (x))]) := by show _ = _; rw [← byteI_val]; rfl
      have SN : Hid (appB x 4 (3 + 1) = appB x 4 3 ++ [byteI (x)]) := by show _ = _; rw [appB_snoc]; rw [show x / ((2 ^ (8 * (4 - 1 - 3)) : Nat) : Int) = x from Int.ediv_one x]
      have glt : Hid (g < wr.heap.size) := lt_heap hO.out.1
      have HO := Lib.hid hO.out
      clear hO
      go_wp2_with (at_builtin; go_must (refine appIn (n := n + 3) (m := 1) (B := wr.heap.size + 1) (news := [byteI (x)]) (cur := overL cur n (appB x 4 3)) (t := t) rfl rfl rfl rfl ((heap_alloc_old wr _ glt.out).trans HO.out.1) (by rw [WX.out]; exact reads_new wr _ _ 1 rfl) (by have := HR.out; omega) (by rw [overL_size _ _ _ (by rw [appB_len]; have := HR.out; have := HC.out; omega)]; exact HC.out) ?_))
      go_roundw
      case rel => exact ⟨3 + 1, by omega, by go_num, rfl, by have h_ := (RowIn.alloc HO.out (.cells #[.int .u8 (IntKind.u8.wrap (x))] 5)).set (cur' := overL cur n (appB x 4 (3 + 1))); rw [SN.out, ← overL_snoc _ _ _ _ (by rw [appB_len]; have := HR.out; have := HC.out; simp; omega), appB_len]; rw [SN.out, ← overL_snoc _ _ _ _ (by rw [appB_len]; have := HR.out; have := HC.out; simp; omega), appB_len] at h_; exact h_⟩
      case measure => simp [intOf]
    · go_wp2
      go_ret
      exact ⟨rfl, hO.out⟩
set_option maxRecDepth 100000 in
set_option maxHeartbeats 2000000 in
theorem appended8 (g n cap : Nat) (t : TypeId) (cur : Array Value) (x : Int) (w : World) (hg : w.heap[g]? = some (.cells cur t (0, 0))) (hroom : n + 8 ≤ cap) (hcap : cap ≤ cur.size) :
    Calls Tryz.prog 128 #[.slice (some ⟨g, 0, none⟩) n cap, .int .u64 x, .int .i64 8] w fun e w' => e = .returned (.slice (some ⟨g, 0, none⟩) (n + 8) cap) ∧ RowIn w g t (overL cur n (appB x 8 8)) w' := by
  have HG := Lib.hid hg
  have HR := Lib.hid hroom
  have HC := Lib.hid hcap
  have T0 : Hid True := trivial
  clear hg
  go_enter Tryz.func128, Tryz.ntmps128
  go_wp2
  go_loopw [0, 7] (fun b i wr => ∃ k : Nat, k ≤ 8 ∧ i = .int .i64 (7 - (k : Int)) ∧ b = .slice (some ⟨g, 0, none⟩) (n + k) cap ∧ Hid (RowIn w g t (overL cur n (appB x 8 k)) wr)) (fun _ i _ => (intOf i + 1).toNat)
  case atStart => exact ⟨0, Nat.zero_le _, rfl, rfl, by show RowIn _ _ _ _ _; rw [show appB x 8 0 = [] from rfl, overL_nil]; exact ⟨HG.out, World.grownBy.refl w _⟩⟩
  case round =>
    obtain ⟨k, hk, rfl, rfl, hO⟩ := hrel
    obtain rfl | rfl | rfl | rfl | rfl | rfl | rfl | rfl | rfl : k = 0 ∨ k = 1 ∨ k = 2 ∨ k = 3 ∨ k = 4 ∨ k = 5 ∨ k = 6 ∨ k = 7 ∨ k = 8 := by omega
    · have WX : Hid (bvs [byteI (x / 72057594037927936)] = [.int .u8 (IntKind.u8.wrap (x / 72057594037927936))]) := by show _ = _; rw [← byteI_val]; rfl
      have SN : Hid (appB x 8 (0 + 1) = appB x 8 0 ++ [byteI (x / 72057594037927936)]) := by show _ = _; rw [appB_snoc]; rfl
      have glt : Hid (g < wr.heap.size) := lt_heap hO.out.1
      have HO := Lib.hid hO.out
      clear hO
      go_wp2_with (at_builtin; go_must (refine appIn (n := n + 0) (m := 1) (B := wr.heap.size + 1) (news := [byteI (x / 72057594037927936)]) (cur := overL cur n (appB x 8 0)) (t := t) rfl rfl rfl rfl ((heap_alloc_old wr _ glt.out).trans HO.out.1) (by rw [WX.out]; exact reads_new wr _ _ 1 rfl) (by have := HR.out; omega) (by rw [overL_size _ _ _ (by rw [appB_len]; have := HR.out; have := HC.out; omega)]; exact HC.out) ?_))
      go_roundw
      case rel => exact ⟨0 + 1, by omega, by go_num, rfl, by have h_ := (RowIn.alloc HO.out (.cells #[.int .u8 (IntKind.u8.wrap (x / 72057594037927936))] 5)).set (cur' := overL cur n (appB x 8 (0 + 1))); rw [SN.out, ← overL_snoc _ _ _ _ (by rw [appB_len]; have := HR.out; have := HC.out; simp; omega), appB_len]; rw [SN.out, ← overL_snoc _ _ _ _ (by rw [appB_len]; have := HR.out; have := HC.out; simp; omega), appB_len] at h_; exact h_⟩
      case measure => simp [intOf]
    · have WX : Hid (bvs [byteI (x / 281474976710656)] = [.int .u8 (IntKind.u8.wrap (x / 281474976710656))]) := by show _ = _; rw [← byteI_val]; rfl
      have SN : Hid (appB x 8 (1 + 1) = appB x 8 1 ++ [byteI (x / 281474976710656)]) := by show _ = _; rw [appB_snoc]; rfl
      have glt : Hid (g < wr.heap.size) := lt_heap hO.out.1
      have HO := Lib.hid hO.out
      clear hO
      go_wp2_with (at_builtin; go_must (refine appIn (n := n + 1) (m := 1) (B := wr.heap.size + 1) (news := [byteI (x / 281474976710656)]) (cur := overL cur n (appB x 8 1)) (t := t) rfl rfl rfl rfl ((heap_alloc_old wr _ glt.out).trans HO.out.1) (by rw [WX.out]; exact reads_new wr _ _ 1 rfl) (by have := HR.out; omega) (by rw [overL_size _ _ _ (by rw [appB_len]; have := HR.out; have := HC.out; omega)]; exact HC.out) ?_))
      go_roundw
      case rel => exact ⟨1 + 1, by omega, by go_num, rfl, by have h_ := (RowIn.alloc HO.out (.cells #[.int .u8 (IntKind.u8.wrap (x / 281474976710656))] 5)).set (cur' := overL cur n (appB x 8 (1 + 1))); rw [SN.out, ← overL_snoc _ _ _ _ (by rw [appB_len]; have := HR.out; have := HC.out; simp; omega), appB_len]; rw [SN.out, ← overL_snoc _ _ _ _ (by rw [appB_len]; have := HR.out; have := HC.out; simp; omega), appB_len] at h_; exact h_⟩
      case measure => simp [intOf]
    · have WX : Hid (bvs [byteI (x / 1099511627776)] = [.int .u8 (IntKind.u8.wrap (x / 1099511627776))]) := by show _ = _; rw [← byteI_val]; rfl
      have SN : Hid (appB x 8 (2 + 1) = appB x 8 2 ++ [byteI (x / 1099511627776)]) := by show _ = _; rw [appB_snoc]; rfl
      have glt : Hid (g < wr.heap.size) := lt_heap hO.out.1
      have HO := Lib.hid hO.out
      clear hO
      go_wp2_with (at_builtin; go_must (refine appIn (n := n + 2) (m := 1) (B := wr.heap.size + 1) (news := [byteI (x / 1099511627776)]) (cur := overL cur n (appB x 8 2)) (t := t) rfl rfl rfl rfl ((heap_alloc_old wr _ glt.out).trans HO.out.1) (by rw [WX.out]; exact reads_new wr _ _ 1 rfl) (by have := HR.out; omega) (by rw [overL_size _ _ _ (by rw [appB_len]; have := HR.out; have := HC.out; omega)]; exact HC.out) ?_))
      go_roundw
      case rel => exact ⟨2 + 1, by omega, by go_num, rfl, by have h_ := (RowIn.alloc HO.out (.cells #[.int .u8 (IntKind.u8.wrap (x / 1099511627776))] 5)).set (cur' := overL cur n (appB x 8 (2 + 1))); rw [SN.out, ← overL_snoc _ _ _ _ (by rw [appB_len]; have := HR.out; have := HC.out; simp; omega), appB_len]; rw [SN.out, ← overL_snoc _ _ _ _ (by rw [appB_len]; have := HR.out; have := HC.out; simp; omega), appB_len] at h_; exact h_⟩
      case measure => simp [intOf]
    · have WX : Hid (bvs [byteI (x / 4294967296)] = [.int .u8 (IntKind.u8.wrap (x / 4294967296))]) := by show _ = _; rw [← byteI_val]; rfl
      have SN : Hid (appB x 8 (3 + 1) = appB x 8 3 ++ [byteI (x / 4294967296)]) := by show _ = _; rw [appB_snoc]; rfl
      have glt : Hid (g < wr.heap.size) := lt_heap hO.out.1
      have HO := Lib.hid hO.out
      clear hO
      go_wp2_with (at_builtin; go_must (refine appIn (n := n + 3) (m := 1) (B := wr.heap.size + 1) (news := [byteI (x / 4294967296)]) (cur := overL cur n (appB x 8 3)) (t := t) rfl rfl rfl rfl ((heap_alloc_old wr _ glt.out).trans HO.out.1) (by rw [WX.out]; exact reads_new wr _ _ 1 rfl) (by have := HR.out; omega) (by rw [overL_size _ _ _ (by rw [appB_len]; have := HR.out; have := HC.out; omega)]; exact HC.out) ?_))
      go_roundw
      case rel => exact ⟨3 + 1, by omega, by go_num, rfl, by have h_ := (RowIn.alloc HO.out (.cells #[.int .u8 (IntKind.u8.wrap (x / 4294967296))] 5)).set (cur' := overL cur n (appB x 8 (3 + 1))); rw [SN.out, ← overL_snoc _ _ _ _ (by rw [appB_len]; have := HR.out; have := HC.out; simp; omega), appB_len]; rw [SN.out, ← overL_snoc _ _ _ _ (by rw [appB_len]; have := HR.out; have := HC.out; simp; omega), appB_len] at h_; exact h_⟩
      case measure => simp [intOf]
    · have WX : Hid (bvs [byteI (x / 16777216)] = [.int .u8 (IntKind.u8.wrap (x / 16777216))]) := by show _ = _; rw [← byteI_val]; rfl
      have SN : Hid (appB x 8 (4 + 1) = appB x 8 4 ++ [byteI (x / 16777216)]) := by show _ = _; rw [appB_snoc]; rfl
      have glt : Hid (g < wr.heap.size) := lt_heap hO.out.1
      have HO := Lib.hid hO.out
      clear hO
      go_wp2_with (at_builtin; go_must (refine appIn (n := n + 4) (m := 1) (B := wr.heap.size + 1) (news := [byteI (x / 16777216)]) (cur := overL cur n (appB x 8 4)) (t := t) rfl rfl rfl rfl ((heap_alloc_old wr _ glt.out).trans HO.out.1) (by rw [WX.out]; exact reads_new wr _ _ 1 rfl) (by have := HR.out; omega) (by rw [overL_size _ _ _ (by rw [appB_len]; have := HR.out; have := HC.out; omega)]; exact HC.out) ?_))
      go_roundw
      case rel => exact ⟨4 + 1, by omega, by go_num, rfl, by have h_ := (RowIn.alloc HO.out (.cells #[.int .u8 (IntKind.u8.wrap (x / 16777216))] 5)).set (cur' := overL cur n (appB x 8 (4 + 1))); rw [SN.out, ← overL_snoc _ _ _ _ (by rw [appB_len]; have := HR.out; have := HC.out; simp; omega), appB_len]; rw [SN.out, ← overL_snoc _ _ _ _ (by rw [appB_len]; have := HR.out; have := HC.out; simp; omega), appB_len] at h_; exact h_⟩
      case measure => simp [intOf]
    · have WX : Hid (bvs [byteI (x / 65536)] = [.int .u8 (IntKind.u8.wrap (x / 65536))]) := by show _ = _; rw [← byteI_val]; rfl
      have SN : Hid (appB x 8 (5 + 1) = appB x 8 5 ++ [byteI (x / 65536)]) := by show _ = _; rw [appB_snoc]; rfl
      have glt : Hid (g < wr.heap.size) := lt_heap hO.out.1
      have HO := Lib.hid hO.out
      clear hO
      go_wp2_with (at_builtin; go_must (refine appIn (n := n + 5) (m := 1) (B := wr.heap.size + 1) (news := [byteI (x / 65536)]) (cur := overL cur n (appB x 8 5)) (t := t) rfl rfl rfl rfl ((heap_alloc_old wr _ glt.out).trans HO.out.1) (by rw [WX.out]; exact reads_new wr _ _ 1 rfl) (by have := HR.out; omega) (by rw [overL_size _ _ _ (by rw [appB_len]; have := HR.out; have := HC.out; omega)]; exact HC.out) ?_))
      go_roundw
      case rel => exact ⟨5 + 1, by omega, by go_num, rfl, by have h_ := (RowIn.alloc HO.out (.cells #[.int .u8 (IntKind.u8.wrap (x / 65536))] 5)).set (cur' := overL cur n (appB x 8 (5 + 1))); rw [SN.out, ← overL_snoc _ _ _ _ (by rw [appB_len]; have := HR.out; have := HC.out; simp; omega), appB_len]; rw [SN.out, ← overL_snoc _ _ _ _ (by rw [appB_len]; have := HR.out; have := HC.out; simp; omega), appB_len] at h_; exact h_⟩
      case measure => simp [intOf]
    · have WX : Hid (bvs [byteI (x / 256)] = [.int .u8 (IntKind.u8.wrap (x / 256))]) := by show _ = _; rw [← byteI_val]; rfl
      have SN : Hid (appB x 8 (6 + 1) = appB x 8 6 ++ [byteI (x / 256)]) := by show _ = _; rw [appB_snoc]; rfl
      have glt : Hid (g < wr.heap.size) := lt_heap hO.out.1
      have HO := Lib.hid hO.out
      clear hO
      go_wp2_with (at_builtin; go_must (refine appIn (n := n + 6) (m := 1) (B := wr.heap.size + 1) (news := [byteI (x / 256)]) (cur := overL cur n (appB x 8 6)) (t := t) rfl rfl rfl rfl ((heap_alloc_old wr _ glt.out).trans HO.out.1) (by rw [WX.out]; exact reads_new wr _ _ 1 rfl) (by have := HR.out; omega) (by rw [overL_size _ _ _ (by rw [appB_len]; have := HR.out; have := HC.out; omega)]; exact HC.out) ?_))
      go_roundw
      case rel => exact ⟨6 + 1, by omega, by go_num, rfl, by have h_ := (RowIn.alloc HO.out (.cells #[.int .u8 (IntKind.u8.wrap (x / 256))] 5)).set (cur' := overL cur n (appB x 8 (6 + 1))); rw [SN.out, ← overL_snoc _ _ _ _ (by rw [appB_len]; have := HR.out; have := HC.out; simp; omega), appB_len]; rw [SN.out, ← overL_snoc _ _ _ _ (by rw [appB_len]; have := HR.out; have := HC.out; simp; omega), appB_len] at h_; exact h_⟩
      case measure => simp [intOf]
    · have WX : Hid (bvs [byteI (x)] = [.int .u8 (IntKind.u8.wrap (x))]) := by show _ = _; rw [← byteI_val]; rfl
      have SN : Hid (appB x 8 (7 + 1) = appB x 8 7 ++ [byteI (x)]) := by show _ = _; rw [appB_snoc]; rw [show x / ((2 ^ (8 * (8 - 1 - 7)) : Nat) : Int) = x from Int.ediv_one x]
      have glt : Hid (g < wr.heap.size) := lt_heap hO.out.1
      have HO := Lib.hid hO.out
      clear hO
      go_wp2_with (at_builtin; go_must (refine appIn (n := n + 7) (m := 1) (B := wr.heap.size + 1) (news := [byteI (x)]) (cur := overL cur n (appB x 8 7)) (t := t) rfl rfl rfl rfl ((heap_alloc_old wr _ glt.out).trans HO.out.1) (by rw [WX.out]; exact reads_new wr _ _ 1 rfl) (by have := HR.out; omega) (by rw [overL_size _ _ _ (by rw [appB_len]; have := HR.out; have := HC.out; omega)]; exact HC.out) ?_))
      go_roundw
      case rel => exact ⟨7 + 1, by omega, by go_num, rfl, by have h_ := (RowIn.alloc HO.out (.cells #[.int .u8 (IntKind.u8.wrap (x))] 5)).set (cur' := overL cur n (appB x 8 (7 + 1))); rw [SN.out, ← overL_snoc _ _ _ _ (by rw [appB_len]; have := HR.out; have := HC.out; simp; omega), appB_len]; rw [SN.out, ← overL_snoc _ _ _ _ (by rw [appB_len]; have := HR.out; have := HC.out; simp; omega), appB_len] at h_; exact h_⟩
      case measure => simp [intOf]
    · go_wp2
      go_ret
      exact ⟨rfl, hO.out⟩
end Go.Proofs.YtbcpmnnlhdgbhaaGreatDoor
