/- The texts Z1 Z2 Z3 Z4 of this work, merged by wip/merge.py. No conditions. -/
import Derived.Test.YtnkcnnmhgomphaaDoorQA
import Derived.Deep.DeepMust
import Derived.Test.YtnkcnnmhgomphaaDoorQR
import Derived.Test.YtnkcnnmhgomphaaDoorQG
import Derived.BigQuiet
import Derived.Deep.QuietTactic
namespace Go.Proofs.YtnkcnnmhgomphaaDoor
open Go.RowKit
def rotI (x : Int) (s : Nat) : Int := bits .or .u32 (IntKind.u32.wrap (x * (2 ^ s : Nat))) (x / (2 ^ (32 - s) : Nat))
set_option maxRecDepth 100000 in
theorem rot6 (x : Int) (w : World) : Calls Tryd.prog 76 #[.int .u32 x, .int .i64 (-6)] w fun e w' => e = .returned (.int .u32 (rotI x 26)) ∧ w' = w := by
  have e : bits BinOp.and IntKind.u64 (IntKind.u64.wrap (-6)) 31 = 26 := by kernel_rfl
  go_enter Tryd.func76, Tryd.ntmps76
  go_wp2
  go_ret
  exact ⟨rfl, rfl⟩
set_option maxRecDepth 100000 in
theorem rot11 (x : Int) (w : World) : Calls Tryd.prog 76 #[.int .u32 x, .int .i64 (-11)] w fun e w' => e = .returned (.int .u32 (rotI x 21)) ∧ w' = w := by
  have e : bits BinOp.and IntKind.u64 (IntKind.u64.wrap (-11)) 31 = 21 := by kernel_rfl
  go_enter Tryd.func76, Tryd.ntmps76
  go_wp2
  go_ret
  exact ⟨rfl, rfl⟩
set_option maxRecDepth 100000 in
theorem rot25 (x : Int) (w : World) : Calls Tryd.prog 76 #[.int .u32 x, .int .i64 (-25)] w fun e w' => e = .returned (.int .u32 (rotI x 7)) ∧ w' = w := by
  have e : bits BinOp.and IntKind.u64 (IntKind.u64.wrap (-25)) 31 = 7 := by kernel_rfl
  go_enter Tryd.func76, Tryd.ntmps76
  go_wp2
  go_ret
  exact ⟨rfl, rfl⟩
set_option maxRecDepth 100000 in
theorem rot17 (x : Int) (w : World) : Calls Tryd.prog 76 #[.int .u32 x, .int .i64 (-17)] w fun e w' => e = .returned (.int .u32 (rotI x 15)) ∧ w' = w := by
  have e : bits BinOp.and IntKind.u64 (IntKind.u64.wrap (-17)) 31 = 15 := by kernel_rfl
  go_enter Tryd.func76, Tryd.ntmps76
  go_wp2
  go_ret
  exact ⟨rfl, rfl⟩
set_option maxRecDepth 100000 in
theorem rot19 (x : Int) (w : World) : Calls Tryd.prog 76 #[.int .u32 x, .int .i64 (-19)] w fun e w' => e = .returned (.int .u32 (rotI x 13)) ∧ w' = w := by
  have e : bits BinOp.and IntKind.u64 (IntKind.u64.wrap (-19)) 31 = 13 := by kernel_rfl
  go_enter Tryd.func76, Tryd.ntmps76
  go_wp2
  go_ret
  exact ⟨rfl, rfl⟩
set_option maxRecDepth 100000 in
theorem rot7 (x : Int) (w : World) : Calls Tryd.prog 76 #[.int .u32 x, .int .i64 (-7)] w fun e w' => e = .returned (.int .u32 (rotI x 25)) ∧ w' = w := by
  have e : bits BinOp.and IntKind.u64 (IntKind.u64.wrap (-7)) 31 = 25 := by kernel_rfl
  go_enter Tryd.func76, Tryd.ntmps76
  go_wp2
  go_ret
  exact ⟨rfl, rfl⟩
set_option maxRecDepth 100000 in
theorem rot18 (x : Int) (w : World) : Calls Tryd.prog 76 #[.int .u32 x, .int .i64 (-18)] w fun e w' => e = .returned (.int .u32 (rotI x 14)) ∧ w' = w := by
  have e : bits BinOp.and IntKind.u64 (IntKind.u64.wrap (-18)) 31 = 14 := by kernel_rfl
  go_enter Tryd.func76, Tryd.ntmps76
  go_wp2
  go_ret
  exact ⟨rfl, rfl⟩
set_option maxRecDepth 100000 in
theorem rot2 (x : Int) (w : World) : Calls Tryd.prog 76 #[.int .u32 x, .int .i64 (-2)] w fun e w' => e = .returned (.int .u32 (rotI x 30)) ∧ w' = w := by
  have e : bits BinOp.and IntKind.u64 (IntKind.u64.wrap (-2)) 31 = 30 := by kernel_rfl
  go_enter Tryd.func76, Tryd.ntmps76
  go_wp2
  go_ret
  exact ⟨rfl, rfl⟩
set_option maxRecDepth 100000 in
theorem rot13 (x : Int) (w : World) : Calls Tryd.prog 76 #[.int .u32 x, .int .i64 (-13)] w fun e w' => e = .returned (.int .u32 (rotI x 19)) ∧ w' = w := by
  have e : bits BinOp.and IntKind.u64 (IntKind.u64.wrap (-13)) 31 = 19 := by kernel_rfl
  go_enter Tryd.func76, Tryd.ntmps76
  go_wp2
  go_ret
  exact ⟨rfl, rfl⟩
set_option maxRecDepth 100000 in
theorem rot22 (x : Int) (w : World) : Calls Tryd.prog 76 #[.int .u32 x, .int .i64 (-22)] w fun e w' => e = .returned (.int .u32 (rotI x 10)) ∧ w' = w := by
  have e : bits BinOp.and IntKind.u64 (IntKind.u64.wrap (-22)) 31 = 10 := by kernel_rfl
  go_enter Tryd.func76, Tryd.ntmps76
  go_wp2
  go_ret
  exact ⟨rfl, rfl⟩
end Go.Proofs.YtnkcnnmhgomphaaDoor

namespace Go.Proofs.YtnkcnnmhgomphaaDoor
open Go.RowKit
def wordI (l : List UInt8) : Int := l.foldl (fun n x => bits .or .u64 (IntKind.u64.wrap (n * 256)) (x.toNat : Int)) 0
theorem wordI_snoc (l : List UInt8) (x : UInt8) : wordI (l ++ [x]) = bits .or .u64 (IntKind.u64.wrap (wordI l * 256)) (x.toNat : Int) := by
  unfold wordI; rw [List.foldl_append]; rfl
theorem take_snoc {l : List UInt8} {k : Nat} (h : k < l.length) : l.take (k + 1) = l.take k ++ [l.getD k 0] := by
  rw [List.take_succ_eq_append_getElem h]
  simp [h]
set_option maxRecDepth 100000 in
set_option maxHeartbeats 1000000 in
theorem word_any (A : Option Addr) (n c : Nat) (l : List UInt8) (w : World) (B : Nat) (hr : Reads w B 1 A n (bvs l)) (hn : n ≤ 1000000) :
    Calls Tryd.prog 75 #[.slice A n c] w fun e w' => e = .returned (.int .u64 (wordI l)) ∧ w' = w := by
  have hl : l.length = n := by have := hr.1; rw [bvs_length] at this; omega
  have HL := Lib.hid hl
  have hnI : (n : Int) ≤ 1000000 := by omega
  have HR := Lib.hid hr
  clear hr hl
  go_enter Tryd.func75, Tryd.ntmps75
  go_wp2
  go_loop [3, 8] (fun x i => ∃ (k : Nat) (xi : Int), k ≤ n ∧ i = .int .i64 (k : Int) ∧ x = .int .u64 xi ∧ Hid (xi = wordI (l.take k))) (fun _ i => n - (intOf i).toNat)
  case atStart => exact ⟨0, 0, Nat.zero_le _, rfl, rfl, by rw [List.take_zero]; rfl⟩
  case round =>
    obtain ⟨k, xi, hk, rfl, rfl, hx⟩ := hrel
    by_cases hlt : k < n
    · have hlt' : (k : Int) < (n : Int) := by omega
      have hk0 : (0 : Int) ≤ (k : Int) := by omega
      obtain ⟨bb, off, hA, hbb, hcell⟩ := HR.out.bytes (by omega)
      subst hA
      obtain ⟨x, hxk⟩ : ∃ x, x = l.getD k 0 := ⟨_, rfl⟩
      have cc := hcell k hlt
      rw [← hxk] at cc
      have SN : Hid (wordI (l.take (k + 1)) = bits .or .u64 (IntKind.u64.wrap (xi * 256)) (x.toNat : Int)) := by
        show _ = _
        rw [take_snoc (by rw [HL.out]; exact hlt), wordI_snoc, ← hx.out, ← hxk]
      have hw : IntKind.u64.wrap (x.toNat : Int) = (x.toNat : Int) := by
        have := x.toNat_lt
        unfold IntKind.wrap
        rw [if_neg (by simp [IntKind.signed])]
        exact Int.emod_eq_of_lt (by omega) (by show _ < (2 : Int) ^ 64; omega)
      clear hxk hcell
      go_wp2
      go_round
      case rel => exact ⟨k + 1, _, hlt, by go_num, rfl, SN.out.symm⟩
      case measure => simp [intOf]; omega
    · obtain rfl : n = k := by omega
      go_wp2
      go_ret
      rw [hx.out, show l.take n = l from List.take_of_length_le (by rw [HL.out]; exact Nat.le_refl _)]
      exact ⟨rfl, rfl⟩
end Go.Proofs.YtnkcnnmhgomphaaDoor

namespace Go.Proofs.YtnkcnnmhgomphaaDoor
open Go.RowKit
/-- Cells written into a block that is not marked. -/
theorem run_storeCells_in (P : Program) (g o : Nat) (t : TypeId) : ∀ (vs : List Value) (i : Nat) (cur : Array Value) (w : World), w.heap[g]? = some (.cells cur t (0, 0)) → o + i + vs.length ≤ cur.size → (∀ u ∈ vs, u.oneCell' = true) →
    (storeCells ⟨g, o, none⟩ vs i).run P w = .ok () (w.setRow g (cur.toList.take (o + i) ++ vs ++ cur.toList.drop (o + i + vs.length)).toArray)
  | [], i, cur, w, hg, _, _ => by
    simp only [storeCells, List.append_nil, List.length_nil, Nat.add_zero, List.take_append_drop, Array.toArray_toList]
    rw [setRow_self w g cur t (0, 0) hg]
    rfl
  | v :: rest, i, cur, w, hg, hl, h1 => by
    have hi : o + i < cur.size := by simp at hl; omega
    have hadd : (⟨g, o, none⟩ : Addr).add i = ⟨g, o + i, none⟩ := add_none g o i
    have hcell : w.cell? ⟨g, o + i, none⟩ = some cur[o + i] := by simp [World.cell?, hg, hi]
    have hfro : w.frozen? ⟨g, o + i, none⟩ = false := by
      simp only [World.frozen?, hg, Bool.and_eq_false_iff, decide_eq_false_iff_not]
      omega
    have hst : (store ((⟨g, o, none⟩ : Addr).add i) v).run P w = .ok () (w.setRow g (cur.setIfInBounds (o + i) v)) := by
      rw [hadd, run_store P w _ v _ (h1 v (by simp)), hcell]
      simp [hfro, setCell_eq_setRow w g (o + i) cur t (0, 0) v hg]
    have ih := run_storeCells_in P g o t rest (i + 1) (cur.setIfInBounds (o + i) v) (w.setRow g (cur.setIfInBounds (o + i) v)) (setRow_heap w g cur _ t _ hg) (by simp at hl ⊢; omega) (fun x hx => h1 x (by simp [hx]))
    simp only [storeCells, Sem.run_bind, hst, Result.andThen_ok, ih, setRow_setRow]
    congr 3
    have e := list_seg_step cur.toList (o + i) v rest (by simp at hl ⊢; omega)
    simpa [Array.toList_setIfInBounds, Nat.add_assoc] using e
/-- What a row reads behind bytes written from n on. -/
def overL (cur : Array Value) (n : Nat) (l : List UInt8) : Array Value := (cur.toList.take n ++ bvs l ++ cur.toList.drop (n + l.length)).toArray
theorem overL_size (cur : Array Value) (n : Nat) (l : List UInt8) (h : n + l.length ≤ cur.size) : (overL cur n l).size = cur.size := by
  unfold overL
  simp only [List.size_toArray, List.length_append, List.length_take, List.length_drop, Array.length_toList, bvs_length]
  omega
theorem overL_nil (cur : Array Value) (n : Nat) : overL cur n [] = cur := by
  unfold overL
  simp [bvs]
theorem overL_snoc (cur : Array Value) (n : Nat) (l m : List UInt8) (h : n + l.length + m.length ≤ cur.size) : overL (overL cur n l) (n + l.length) m = overL cur n (l ++ m) := by
  have hlen : (cur.toList.take n).length = n := by rw [List.length_take, Array.length_toList]; omega
  have h1 : (cur.toList.take n ++ bvs l).length = n + l.length := by rw [List.length_append, hlen, bvs_length]
  unfold overL
  congr 1
  have e1 : (cur.toList.take n ++ bvs l ++ cur.toList.drop (n + l.length)).take (n + l.length) = cur.toList.take n ++ bvs l := by
    rw [← h1]; exact List.take_left
  have e2 : (cur.toList.take n ++ bvs l ++ cur.toList.drop (n + l.length)).drop (n + l.length + m.length) = cur.toList.drop (n + (l ++ m).length) := by
    rw [← List.drop_drop, ← h1, List.drop_left, h1, List.drop_drop, List.length_append, Nat.add_assoc]
  rw [e1, e2, bvs_append, List.append_assoc (cur.toList.take n)]
theorem run_appIn {w : World} {B g n cap m c : Nat} {cur : Array Value} {t : TypeId} {ad : Addr} {news : List UInt8} (ty : TypeId) (hg : w.heap[g]? = some (.cells cur t (0, 0))) (hr : Reads w B 1 (some ad) m (bvs news)) (hroom : n + m ≤ cap) (hcap : cap ≤ cur.size) :
    (Builtin.append_ #[48, 48] ty #[.slice (some ⟨g, 0, none⟩) n cap, .slice (some ad) m c]).run Tryd.prog w = .ok (.slice (some ⟨g, 0, none⟩) (n + m) cap) (w.setRow g (overL cur n news)) := by
  obtain ⟨i0, hi0, hz0, hz1, hz2⟩ := info_parts u8info
  have hm : m = news.length := by have := hr.1; rw [bvs_length] at this; omega
  subst hm
  have hcells : ∀ j u, (bvs news)[j]? = some u → w.cell? (ad.add j) = some u := by
    intro j u hu
    rcases Nat.eq_zero_or_pos news.length with h0 | h0
    · have h3 := List.eq_nil_of_length_eq_zero h0
      subst h3
      simp [bvs] at hu
    · obtain ⟨ad', h, _, hc⟩ := hr.2 h0
      cases h
      exact hc j u hu
  have hf := run_firstCells_some (P := Tryd.prog) w i0.size news.length ad news.length c (bvs news) (by rw [hz1, bvs_length, Nat.mul_one]) hcells
  have hst := run_storeCells_in Tryd.prog g n t (bvs news) 0 cur w hg (by rw [bvs_length]; omega) (bvs_one _)
  simp only [Nat.add_zero, bvs_length] at hst
  unfold overL
  simp [Builtin.append_, run_underlying Tryd.underlying48, sizeOf, typeInfo, hi0, hz1, Builtin.lenOf, hroom, Addr.add_lit]
  rw [hz1] at hf
  simp [hf, hst]
theorem appIn {ops : Array Oper} {rest : List Oper} {o : Oper} {a : Act} {w : World} {Q : Exit → Act → World → Prop} {s x : Operand} {B g n cap m c : Nat} {cur : Array Value} {t : TypeId} {ad : Addr} {news : List UInt8}
    (hgd : o.guard = none) (ho : o.op = .call { callee := .builtin .append, args := #[s, x], argTypes := #[48, 48] }) (hs : a.eval s = .slice (some ⟨g, 0, none⟩) n cap) (hx : a.eval x = .slice (some ad) m c)
    (hg : w.heap[g]? = some (.cells cur t (0, 0))) (hr : Reads w B 1 (some ad) m (bvs news)) (hroom : n + m ≤ cap) (hcap : cap ≤ cur.size)
    (h : wpList Tryd.prog ops Q rest (a.put o.dst (.slice (some ⟨g, 0, none⟩) (n + m) cap)) (w.setRow g (overL cur n news))) : wpList Tryd.prog ops Q (o :: rest) a w := by
  refine wpList_plain hgd fun K hK => ?_
  have h2 := hK _ _ h
  have hrun := run_appIn (c := c) o.type hg hr hroom hcap
  unfold Oper.wp execOp
  simp only [ho, resolve, invoke, builtin, Sem.run_bind, Sem.run_pure, Result.andThen_ok, List.map_toArray, List.map_cons, List.map_nil, hs, hx, hrun]
  exact h2
def byteI (y : Int) : UInt8 := UInt8.ofNat (y % 256).toNat
theorem byteI_val (y : Int) : ((byteI y).toNat : Int) = IntKind.u8.wrap y := by
  have h0 := Int.emod_nonneg y (show (256 : Int) ≠ 0 by decide)
  have h1 := Int.emod_lt_of_pos y (show (0 : Int) < 256 by decide)
  unfold byteI
  rw [UInt8.toNat_ofNat', Nat.mod_eq_of_lt (by omega), Int.toNat_of_nonneg h0]
  unfold IntKind.wrap
  rw [if_neg (by simp [IntKind.signed])]
  rfl
/-- The first k bytes of a number of so many bytes. -/
def appB (x : Int) (size k : Nat) : List UInt8 := (List.range k).map fun j => byteI (x / ((2 ^ (8 * (size - 1 - j)) : Nat) : Int))
theorem appB_len (x : Int) (size k : Nat) : (appB x size k).length = k := by simp [appB]
theorem appB_snoc (x : Int) (size k : Nat) : appB x size (k + 1) = appB x size k ++ [byteI (x / ((2 ^ (8 * (size - 1 - k)) : Nat) : Int))] := by
  unfold appB; rw [List.range_succ, List.map_append]; rfl
/-- A row of the call's own, and all else as it was. -/
def RowIn (w : World) (g : Nat) (t : TypeId) (cur : Array Value) (w' : World) : Prop := w'.heap[g]? = some (.cells cur t (0, 0)) ∧ w.grownBy w' (some g)
theorem lt_heap {w : World} {k : Nat} {o : Obj} (h : w.heap[k]? = some o) : k < w.heap.size := by
  rcases Nat.lt_or_ge k w.heap.size with h' | h'
  · exact h'
  · rw [Array.getElem?_eq_none h'] at h; cases h
theorem RowIn.alloc {w w' : World} {g : Nat} {t : TypeId} {cur : Array Value} (h : RowIn w g t cur w') (o : Obj) : RowIn w g t cur (w'.alloc o) := by
  refine ⟨(heap_alloc_old w' o (lt_heap h.1)).trans h.1, ⟨h.2.os, h.2.tape, h.2.output, Nat.le_trans h.2.size (by simp), fun k hk hne => ?_⟩⟩
  exact (heap_alloc_old w' o (Nat.lt_of_lt_of_le hk h.2.size)).trans (h.2.block k hk hne)
theorem RowIn.set {w w' : World} {g : Nat} {t : TypeId} {cur cur' : Array Value} (h : RowIn w g t cur w') : RowIn w g t cur' (w'.setRow g cur') := by
  refine ⟨setRow_heap w' g cur cur' t (0, 0) h.1, ⟨h.2.os, h.2.tape, h.2.output, by simpa using h.2.size, fun k hk hne => ?_⟩⟩
  rw [setRow_other w' g k _ (fun e => hne (by rw [e]))]
  exact h.2.block k hk hne
set_option maxRecDepth 100000 in
set_option maxHeartbeats 2000000 in
theorem appended4 (g n cap : Nat) (t : TypeId) (cur : Array Value) (x : Int) (w : World) (hg : w.heap[g]? = some (.cells cur t (0, 0))) (hroom : n + 4 ≤ cap) (hcap : cap ≤ cur.size) :
    Calls Tryd.prog 68 #[.slice (some ⟨g, 0, none⟩) n cap, .int .u64 x, .int .i64 4] w fun e w' => e = .returned (.slice (some ⟨g, 0, none⟩) (n + 4) cap) ∧ RowIn w g t (overL cur n (appB x 4 4)) w' := by
  have HG := Lib.hid hg
  have HR := Lib.hid hroom
  have HC := Lib.hid hcap
  have T0 : Hid True := trivial
  clear hg
  go_enter Tryd.func68, Tryd.ntmps68
  go_wp2
  go_loopw [0, 7] (fun b i wr => ∃ k : Nat, k ≤ 4 ∧ i = .int .i64 (3 - (k : Int)) ∧ b = .slice (some ⟨g, 0, none⟩) (n + k) cap ∧ Hid (RowIn w g t (overL cur n (appB x 4 k)) wr)) (fun _ i _ => (intOf i + 1).toNat)
  case atStart => exact ⟨0, Nat.zero_le _, rfl, rfl, by show RowIn _ _ _ _ _; rw [show appB x 4 0 = [] from rfl, overL_nil]; exact ⟨HG.out, World.grownBy.refl w _⟩⟩
  case round =>
    obtain ⟨k, hk, rfl, rfl, hO⟩ := hrel
    obtain rfl | rfl | rfl | rfl | rfl : k = 0 ∨ k = 1 ∨ k = 2 ∨ k = 3 ∨ k = 4 := by omega
    · have WX : Hid (bvs [byteI (x / 16777216)] = [.int .u8 (IntKind.u8.wrap (x / 16777216))]) := by show _ = _; rw [← byteI_val]; rfl
      have SN : Hid (appB x 4 (0 + 1) = appB x 4 0 ++ [byteI (x / 16777216)]) := by show _ = _; rw [appB_snoc]; rfl
      have glt : Hid (g < wr.heap.size) := lt_heap hO.out.1
      have HO := Lib.hid hO.out
      clear hO
      go_wp2_with (at_builtin; go_must (refine appIn (n := n + 0) (m := 1) (B := wr.heap.size + 1) (news := [byteI (x / 16777216)]) (cur := overL cur n (appB x 4 0)) (t := t) rfl rfl rfl rfl ((heap_alloc_old wr _ glt.out).trans HO.out.1) (by rw [WX.out]; exact reads_new wr _ _ 1 rfl) (by have := HR.out; omega) (by rw [overL_size _ _ _ (by rw [appB_len]; have := HR.out; have := HC.out; omega)]; exact HC.out) ?_))
      go_roundw
      case rel => exact ⟨0 + 1, by omega, by go_num, rfl, by have h_ := (RowIn.alloc HO.out (.cells #[.int .u8 (IntKind.u8.wrap (x / 16777216))] 5)).set (cur' := overL cur n (appB x 4 (0 + 1))); rw [SN.out, ← overL_snoc _ _ _ _ (by rw [appB_len]; have := HR.out; have := HC.out; simp; omega), appB_len]; rw [SN.out, ← overL_snoc _ _ _ _ (by rw [appB_len]; have := HR.out; have := HC.out; simp; omega), appB_len] at h_; exact h_⟩
      case measure => simp [intOf]
    · have WX : Hid (bvs [byteI (x / 65536)] = [.int .u8 (IntKind.u8.wrap (x / 65536))]) := by show _ = _; rw [← byteI_val]; rfl
      have SN : Hid (appB x 4 (1 + 1) = appB x 4 1 ++ [byteI (x / 65536)]) := by show _ = _; rw [appB_snoc]; rfl
      have glt : Hid (g < wr.heap.size) := lt_heap hO.out.1
      have HO := Lib.hid hO.out
      clear hO
      go_wp2_with (at_builtin; go_must (refine appIn (n := n + 1) (m := 1) (B := wr.heap.size + 1) (news := [byteI (x / 65536)]) (cur := overL cur n (appB x 4 1)) (t := t) rfl rfl rfl rfl ((heap_alloc_old wr _ glt.out).trans HO.out.1) (by rw [WX.out]; exact reads_new wr _ _ 1 rfl) (by have := HR.out; omega) (by rw [overL_size _ _ _ (by rw [appB_len]; have := HR.out; have := HC.out; omega)]; exact HC.out) ?_))
      go_roundw
      case rel => exact ⟨1 + 1, by omega, by go_num, rfl, by have h_ := (RowIn.alloc HO.out (.cells #[.int .u8 (IntKind.u8.wrap (x / 65536))] 5)).set (cur' := overL cur n (appB x 4 (1 + 1))); rw [SN.out, ← overL_snoc _ _ _ _ (by rw [appB_len]; have := HR.out; have := HC.out; simp; omega), appB_len]; rw [SN.out, ← overL_snoc _ _ _ _ (by rw [appB_len]; have := HR.out; have := HC.out; simp; omega), appB_len] at h_; exact h_⟩
      case measure => simp [intOf]
    · have WX : Hid (bvs [byteI (x / 256)] = [.int .u8 (IntKind.u8.wrap (x / 256))]) := by show _ = _; rw [← byteI_val]; rfl
      have SN : Hid (appB x 4 (2 + 1) = appB x 4 2 ++ [byteI (x / 256)]) := by show _ = _; rw [appB_snoc]; rfl
      have glt : Hid (g < wr.heap.size) := lt_heap hO.out.1
      have HO := Lib.hid hO.out
      clear hO
      go_wp2_with (at_builtin; go_must (refine appIn (n := n + 2) (m := 1) (B := wr.heap.size + 1) (news := [byteI (x / 256)]) (cur := overL cur n (appB x 4 2)) (t := t) rfl rfl rfl rfl ((heap_alloc_old wr _ glt.out).trans HO.out.1) (by rw [WX.out]; exact reads_new wr _ _ 1 rfl) (by have := HR.out; omega) (by rw [overL_size _ _ _ (by rw [appB_len]; have := HR.out; have := HC.out; omega)]; exact HC.out) ?_))
      go_roundw
      case rel => exact ⟨2 + 1, by omega, by go_num, rfl, by have h_ := (RowIn.alloc HO.out (.cells #[.int .u8 (IntKind.u8.wrap (x / 256))] 5)).set (cur' := overL cur n (appB x 4 (2 + 1))); rw [SN.out, ← overL_snoc _ _ _ _ (by rw [appB_len]; have := HR.out; have := HC.out; simp; omega), appB_len]; rw [SN.out, ← overL_snoc _ _ _ _ (by rw [appB_len]; have := HR.out; have := HC.out; simp; omega), appB_len] at h_; exact h_⟩
      case measure => simp [intOf]
    · have WX : Hid (bvs [byteI (x)] = [.int .u8 (IntKind.u8.wrap (x))]) := by show _ = _; rw [← byteI_val]; rfl
      have SN : Hid (appB x 4 (3 + 1) = appB x 4 3 ++ [byteI (x)]) := by show _ = _; rw [appB_snoc]; rw [show x / ((2 ^ (8 * (4 - 1 - 3)) : Nat) : Int) = x from Int.ediv_one x]
      have glt : Hid (g < wr.heap.size) := lt_heap hO.out.1
      have HO := Lib.hid hO.out
      clear hO
      go_wp2_with (at_builtin; go_must (refine appIn (n := n + 3) (m := 1) (B := wr.heap.size + 1) (news := [byteI (x)]) (cur := overL cur n (appB x 4 3)) (t := t) rfl rfl rfl rfl ((heap_alloc_old wr _ glt.out).trans HO.out.1) (by rw [WX.out]; exact reads_new wr _ _ 1 rfl) (by have := HR.out; omega) (by rw [overL_size _ _ _ (by rw [appB_len]; have := HR.out; have := HC.out; omega)]; exact HC.out) ?_))
      go_roundw
      case rel => exact ⟨3 + 1, by omega, by go_num, rfl, by have h_ := (RowIn.alloc HO.out (.cells #[.int .u8 (IntKind.u8.wrap (x))] 5)).set (cur' := overL cur n (appB x 4 (3 + 1))); rw [SN.out, ← overL_snoc _ _ _ _ (by rw [appB_len]; have := HR.out; have := HC.out; simp; omega), appB_len]; rw [SN.out, ← overL_snoc _ _ _ _ (by rw [appB_len]; have := HR.out; have := HC.out; simp; omega), appB_len] at h_; exact h_⟩
      case measure => simp [intOf]
    · go_wp2
      go_ret
      exact ⟨rfl, hO.out⟩
set_option maxRecDepth 100000 in
set_option maxHeartbeats 2000000 in
theorem appended8 (g n cap : Nat) (t : TypeId) (cur : Array Value) (x : Int) (w : World) (hg : w.heap[g]? = some (.cells cur t (0, 0))) (hroom : n + 8 ≤ cap) (hcap : cap ≤ cur.size) :
    Calls Tryd.prog 68 #[.slice (some ⟨g, 0, none⟩) n cap, .int .u64 x, .int .i64 8] w fun e w' => e = .returned (.slice (some ⟨g, 0, none⟩) (n + 8) cap) ∧ RowIn w g t (overL cur n (appB x 8 8)) w' := by
  have HG := Lib.hid hg
  have HR := Lib.hid hroom
  have HC := Lib.hid hcap
  have T0 : Hid True := trivial
  clear hg
  go_enter Tryd.func68, Tryd.ntmps68
  go_wp2
  go_loopw [0, 7] (fun b i wr => ∃ k : Nat, k ≤ 8 ∧ i = .int .i64 (7 - (k : Int)) ∧ b = .slice (some ⟨g, 0, none⟩) (n + k) cap ∧ Hid (RowIn w g t (overL cur n (appB x 8 k)) wr)) (fun _ i _ => (intOf i + 1).toNat)
  case atStart => exact ⟨0, Nat.zero_le _, rfl, rfl, by show RowIn _ _ _ _ _; rw [show appB x 8 0 = [] from rfl, overL_nil]; exact ⟨HG.out, World.grownBy.refl w _⟩⟩
  case round =>
    obtain ⟨k, hk, rfl, rfl, hO⟩ := hrel
    obtain rfl | rfl | rfl | rfl | rfl | rfl | rfl | rfl | rfl : k = 0 ∨ k = 1 ∨ k = 2 ∨ k = 3 ∨ k = 4 ∨ k = 5 ∨ k = 6 ∨ k = 7 ∨ k = 8 := by omega
    · have WX : Hid (bvs [byteI (x / 72057594037927936)] = [.int .u8 (IntKind.u8.wrap (x / 72057594037927936))]) := by show _ = _; rw [← byteI_val]; rfl
      have SN : Hid (appB x 8 (0 + 1) = appB x 8 0 ++ [byteI (x / 72057594037927936)]) := by show _ = _; rw [appB_snoc]; rfl
      have glt : Hid (g < wr.heap.size) := lt_heap hO.out.1
      have HO := Lib.hid hO.out
      clear hO
      go_wp2_with (at_builtin; go_must (refine appIn (n := n + 0) (m := 1) (B := wr.heap.size + 1) (news := [byteI (x / 72057594037927936)]) (cur := overL cur n (appB x 8 0)) (t := t) rfl rfl rfl rfl ((heap_alloc_old wr _ glt.out).trans HO.out.1) (by rw [WX.out]; exact reads_new wr _ _ 1 rfl) (by have := HR.out; omega) (by rw [overL_size _ _ _ (by rw [appB_len]; have := HR.out; have := HC.out; omega)]; exact HC.out) ?_))
      go_roundw
      case rel => exact ⟨0 + 1, by omega, by go_num, rfl, by have h_ := (RowIn.alloc HO.out (.cells #[.int .u8 (IntKind.u8.wrap (x / 72057594037927936))] 5)).set (cur' := overL cur n (appB x 8 (0 + 1))); rw [SN.out, ← overL_snoc _ _ _ _ (by rw [appB_len]; have := HR.out; have := HC.out; simp; omega), appB_len]; rw [SN.out, ← overL_snoc _ _ _ _ (by rw [appB_len]; have := HR.out; have := HC.out; simp; omega), appB_len] at h_; exact h_⟩
      case measure => simp [intOf]
    · have WX : Hid (bvs [byteI (x / 281474976710656)] = [.int .u8 (IntKind.u8.wrap (x / 281474976710656))]) := by show _ = _; rw [← byteI_val]; rfl
      have SN : Hid (appB x 8 (1 + 1) = appB x 8 1 ++ [byteI (x / 281474976710656)]) := by show _ = _; rw [appB_snoc]; rfl
      have glt : Hid (g < wr.heap.size) := lt_heap hO.out.1
      have HO := Lib.hid hO.out
      clear hO
      go_wp2_with (at_builtin; go_must (refine appIn (n := n + 1) (m := 1) (B := wr.heap.size + 1) (news := [byteI (x / 281474976710656)]) (cur := overL cur n (appB x 8 1)) (t := t) rfl rfl rfl rfl ((heap_alloc_old wr _ glt.out).trans HO.out.1) (by rw [WX.out]; exact reads_new wr _ _ 1 rfl) (by have := HR.out; omega) (by rw [overL_size _ _ _ (by rw [appB_len]; have := HR.out; have := HC.out; omega)]; exact HC.out) ?_))
      go_roundw
      case rel => exact ⟨1 + 1, by omega, by go_num, rfl, by have h_ := (RowIn.alloc HO.out (.cells #[.int .u8 (IntKind.u8.wrap (x / 281474976710656))] 5)).set (cur' := overL cur n (appB x 8 (1 + 1))); rw [SN.out, ← overL_snoc _ _ _ _ (by rw [appB_len]; have := HR.out; have := HC.out; simp; omega), appB_len]; rw [SN.out, ← overL_snoc _ _ _ _ (by rw [appB_len]; have := HR.out; have := HC.out; simp; omega), appB_len] at h_; exact h_⟩
      case measure => simp [intOf]
    · have WX : Hid (bvs [byteI (x / 1099511627776)] = [.int .u8 (IntKind.u8.wrap (x / 1099511627776))]) := by show _ = _; rw [← byteI_val]; rfl
      have SN : Hid (appB x 8 (2 + 1) = appB x 8 2 ++ [byteI (x / 1099511627776)]) := by show _ = _; rw [appB_snoc]; rfl
      have glt : Hid (g < wr.heap.size) := lt_heap hO.out.1
      have HO := Lib.hid hO.out
      clear hO
      go_wp2_with (at_builtin; go_must (refine appIn (n := n + 2) (m := 1) (B := wr.heap.size + 1) (news := [byteI (x / 1099511627776)]) (cur := overL cur n (appB x 8 2)) (t := t) rfl rfl rfl rfl ((heap_alloc_old wr _ glt.out).trans HO.out.1) (by rw [WX.out]; exact reads_new wr _ _ 1 rfl) (by have := HR.out; omega) (by rw [overL_size _ _ _ (by rw [appB_len]; have := HR.out; have := HC.out; omega)]; exact HC.out) ?_))
      go_roundw
      case rel => exact ⟨2 + 1, by omega, by go_num, rfl, by have h_ := (RowIn.alloc HO.out (.cells #[.int .u8 (IntKind.u8.wrap (x / 1099511627776))] 5)).set (cur' := overL cur n (appB x 8 (2 + 1))); rw [SN.out, ← overL_snoc _ _ _ _ (by rw [appB_len]; have := HR.out; have := HC.out; simp; omega), appB_len]; rw [SN.out, ← overL_snoc _ _ _ _ (by rw [appB_len]; have := HR.out; have := HC.out; simp; omega), appB_len] at h_; exact h_⟩
      case measure => simp [intOf]
    · have WX : Hid (bvs [byteI (x / 4294967296)] = [.int .u8 (IntKind.u8.wrap (x / 4294967296))]) := by show _ = _; rw [← byteI_val]; rfl
      have SN : Hid (appB x 8 (3 + 1) = appB x 8 3 ++ [byteI (x / 4294967296)]) := by show _ = _; rw [appB_snoc]; rfl
      have glt : Hid (g < wr.heap.size) := lt_heap hO.out.1
      have HO := Lib.hid hO.out
      clear hO
      go_wp2_with (at_builtin; go_must (refine appIn (n := n + 3) (m := 1) (B := wr.heap.size + 1) (news := [byteI (x / 4294967296)]) (cur := overL cur n (appB x 8 3)) (t := t) rfl rfl rfl rfl ((heap_alloc_old wr _ glt.out).trans HO.out.1) (by rw [WX.out]; exact reads_new wr _ _ 1 rfl) (by have := HR.out; omega) (by rw [overL_size _ _ _ (by rw [appB_len]; have := HR.out; have := HC.out; omega)]; exact HC.out) ?_))
      go_roundw
      case rel => exact ⟨3 + 1, by omega, by go_num, rfl, by have h_ := (RowIn.alloc HO.out (.cells #[.int .u8 (IntKind.u8.wrap (x / 4294967296))] 5)).set (cur' := overL cur n (appB x 8 (3 + 1))); rw [SN.out, ← overL_snoc _ _ _ _ (by rw [appB_len]; have := HR.out; have := HC.out; simp; omega), appB_len]; rw [SN.out, ← overL_snoc _ _ _ _ (by rw [appB_len]; have := HR.out; have := HC.out; simp; omega), appB_len] at h_; exact h_⟩
      case measure => simp [intOf]
    · have WX : Hid (bvs [byteI (x / 16777216)] = [.int .u8 (IntKind.u8.wrap (x / 16777216))]) := by show _ = _; rw [← byteI_val]; rfl
      have SN : Hid (appB x 8 (4 + 1) = appB x 8 4 ++ [byteI (x / 16777216)]) := by show _ = _; rw [appB_snoc]; rfl
      have glt : Hid (g < wr.heap.size) := lt_heap hO.out.1
      have HO := Lib.hid hO.out
      clear hO
      go_wp2_with (at_builtin; go_must (refine appIn (n := n + 4) (m := 1) (B := wr.heap.size + 1) (news := [byteI (x / 16777216)]) (cur := overL cur n (appB x 8 4)) (t := t) rfl rfl rfl rfl ((heap_alloc_old wr _ glt.out).trans HO.out.1) (by rw [WX.out]; exact reads_new wr _ _ 1 rfl) (by have := HR.out; omega) (by rw [overL_size _ _ _ (by rw [appB_len]; have := HR.out; have := HC.out; omega)]; exact HC.out) ?_))
      go_roundw
      case rel => exact ⟨4 + 1, by omega, by go_num, rfl, by have h_ := (RowIn.alloc HO.out (.cells #[.int .u8 (IntKind.u8.wrap (x / 16777216))] 5)).set (cur' := overL cur n (appB x 8 (4 + 1))); rw [SN.out, ← overL_snoc _ _ _ _ (by rw [appB_len]; have := HR.out; have := HC.out; simp; omega), appB_len]; rw [SN.out, ← overL_snoc _ _ _ _ (by rw [appB_len]; have := HR.out; have := HC.out; simp; omega), appB_len] at h_; exact h_⟩
      case measure => simp [intOf]
    · have WX : Hid (bvs [byteI (x / 65536)] = [.int .u8 (IntKind.u8.wrap (x / 65536))]) := by show _ = _; rw [← byteI_val]; rfl
      have SN : Hid (appB x 8 (5 + 1) = appB x 8 5 ++ [byteI (x / 65536)]) := by show _ = _; rw [appB_snoc]; rfl
      have glt : Hid (g < wr.heap.size) := lt_heap hO.out.1
      have HO := Lib.hid hO.out
      clear hO
      go_wp2_with (at_builtin; go_must (refine appIn (n := n + 5) (m := 1) (B := wr.heap.size + 1) (news := [byteI (x / 65536)]) (cur := overL cur n (appB x 8 5)) (t := t) rfl rfl rfl rfl ((heap_alloc_old wr _ glt.out).trans HO.out.1) (by rw [WX.out]; exact reads_new wr _ _ 1 rfl) (by have := HR.out; omega) (by rw [overL_size _ _ _ (by rw [appB_len]; have := HR.out; have := HC.out; omega)]; exact HC.out) ?_))
      go_roundw
      case rel => exact ⟨5 + 1, by omega, by go_num, rfl, by have h_ := (RowIn.alloc HO.out (.cells #[.int .u8 (IntKind.u8.wrap (x / 65536))] 5)).set (cur' := overL cur n (appB x 8 (5 + 1))); rw [SN.out, ← overL_snoc _ _ _ _ (by rw [appB_len]; have := HR.out; have := HC.out; simp; omega), appB_len]; rw [SN.out, ← overL_snoc _ _ _ _ (by rw [appB_len]; have := HR.out; have := HC.out; simp; omega), appB_len] at h_; exact h_⟩
      case measure => simp [intOf]
    · have WX : Hid (bvs [byteI (x / 256)] = [.int .u8 (IntKind.u8.wrap (x / 256))]) := by show _ = _; rw [← byteI_val]; rfl
      have SN : Hid (appB x 8 (6 + 1) = appB x 8 6 ++ [byteI (x / 256)]) := by show _ = _; rw [appB_snoc]; rfl
      have glt : Hid (g < wr.heap.size) := lt_heap hO.out.1
      have HO := Lib.hid hO.out
      clear hO
      go_wp2_with (at_builtin; go_must (refine appIn (n := n + 6) (m := 1) (B := wr.heap.size + 1) (news := [byteI (x / 256)]) (cur := overL cur n (appB x 8 6)) (t := t) rfl rfl rfl rfl ((heap_alloc_old wr _ glt.out).trans HO.out.1) (by rw [WX.out]; exact reads_new wr _ _ 1 rfl) (by have := HR.out; omega) (by rw [overL_size _ _ _ (by rw [appB_len]; have := HR.out; have := HC.out; omega)]; exact HC.out) ?_))
      go_roundw
      case rel => exact ⟨6 + 1, by omega, by go_num, rfl, by have h_ := (RowIn.alloc HO.out (.cells #[.int .u8 (IntKind.u8.wrap (x / 256))] 5)).set (cur' := overL cur n (appB x 8 (6 + 1))); rw [SN.out, ← overL_snoc _ _ _ _ (by rw [appB_len]; have := HR.out; have := HC.out; simp; omega), appB_len]; rw [SN.out, ← overL_snoc _ _ _ _ (by rw [appB_len]; have := HR.out; have := HC.out; simp; omega), appB_len] at h_; exact h_⟩
      case measure => simp [intOf]
    · have WX : Hid (bvs [byteI (x)] = [.int .u8 (IntKind.u8.wrap (x))]) := by show _ = _; rw [← byteI_val]; rfl
      have SN : Hid (appB x 8 (7 + 1) = appB x 8 7 ++ [byteI (x)]) := by show _ = _; rw [appB_snoc]; rw [show x / ((2 ^ (8 * (8 - 1 - 7)) : Nat) : Int) = x from Int.ediv_one x]
      have glt : Hid (g < wr.heap.size) := lt_heap hO.out.1
      have HO := Lib.hid hO.out
      clear hO
      go_wp2_with (at_builtin; go_must (refine appIn (n := n + 7) (m := 1) (B := wr.heap.size + 1) (news := [byteI (x)]) (cur := overL cur n (appB x 8 7)) (t := t) rfl rfl rfl rfl ((heap_alloc_old wr _ glt.out).trans HO.out.1) (by rw [WX.out]; exact reads_new wr _ _ 1 rfl) (by have := HR.out; omega) (by rw [overL_size _ _ _ (by rw [appB_len]; have := HR.out; have := HC.out; omega)]; exact HC.out) ?_))
      go_roundw
      case rel => exact ⟨7 + 1, by omega, by go_num, rfl, by have h_ := (RowIn.alloc HO.out (.cells #[.int .u8 (IntKind.u8.wrap (x))] 5)).set (cur' := overL cur n (appB x 8 (7 + 1))); rw [SN.out, ← overL_snoc _ _ _ _ (by rw [appB_len]; have := HR.out; have := HC.out; simp; omega), appB_len]; rw [SN.out, ← overL_snoc _ _ _ _ (by rw [appB_len]; have := HR.out; have := HC.out; simp; omega), appB_len] at h_; exact h_⟩
      case measure => simp [intOf]
    · go_wp2
      go_ret
      exact ⟨rfl, hO.out⟩
end Go.Proofs.YtnkcnnmhgomphaaDoor

namespace Go.Proofs.YtnkcnnmhgomphaaDoor
open Go.RowKit
def xor32 (a b : Int) : Int := bits .xor .u32 a b
def add32 (a b : Int) : Int := IntKind.u32.wrap (a + b)
def sig1 (x : Int) : Int := bits .xor .u32 (bits .xor .u32 (rotI x 15) (rotI x 13)) (x / 1024)
def sig0 (x : Int) : Int := bits .xor .u32 (bits .xor .u32 (rotI x 25) (rotI x 14)) (x / 8)
/-- The words of a block: 16 of its bytes, then each of those ahead. -/
def schedL (l : List UInt8) : Nat → List Int
  | 0 => []
  | t + 1 => schedL l t ++ [if t < 16 then IntKind.u32.wrap (wordI ((l.drop (4 * t)).take 4)) else
      (sig1 ((schedL l t).getD (t - 2) 0) + (schedL l t).getD (t - 7) 0 + sig0 ((schedL l t).getD (t - 15) 0) + (schedL l t).getD (t - 16) 0) % 4294967296]
theorem schedL_len (l : List UInt8) : ∀ t, (schedL l t).length = t
  | 0 => rfl
  | t + 1 => by rw [schedL, List.length_append, schedL_len l t]; rfl
/-- A row of 32-bit words. -/
def WB (w : World) (g : Nat) (t : TypeId) (m : Nat) (L : List Int) : Prop := ∃ cur, w.heap[g]? = some (.cells cur t (0, 0)) ∧ cur.size = m ∧ ∀ (j : Nat), j < L.length → cur[j]? = some (.int .u32 (L.getD j 0))
theorem WB.cell {w : World} {g m : Nat} {t : TypeId} {L : List Int} (h : WB w g t m L) (j : Nat) (hj : j < L.length) : w.cell? ⟨g, j, none⟩ = some (.int .u32 (L.getD j 0)) := by
  obtain ⟨cur, h1, _, h3⟩ := h
  rw [cell_of_row w g j _ _ _ h1]; exact h3 j hj
theorem WB.any {w : World} {g m : Nat} {t : TypeId} {L : List Int} (h : WB w g t m L) (j : Nat) (hj : j < m) : ∃ v, w.cell? ⟨g, j, none⟩ = some v := by
  obtain ⟨cur, h1, h2, _⟩ := h
  rw [cell_of_row w g j _ _ _ h1]
  exact ⟨cur[j], by simp [h2, hj]⟩
theorem WB.unfrozen {w : World} {g m : Nat} {t : TypeId} {L : List Int} (h : WB w g t m L) (i : Nat) : w.frozen? ⟨g, i, none⟩ = false := by
  obtain ⟨cur, h1, _⟩ := h
  simp [World.frozen?, h1]
theorem WB.put {w : World} {g m : Nat} {t : TypeId} {L : List Int} (h : WB w g t m L) (k : Nat) (hk : k = L.length) (hm : k < m) (x : Int) : WB (w.setCell ⟨g, k, none⟩ (.int .u32 x)) g t m (L ++ [x]) := by
  subst hk
  obtain ⟨cur, h1, h2, h3⟩ := h
  refine ⟨cur.setIfInBounds L.length (.int .u32 x), heap_setCell_same w g L.length cur t (.int .u32 x) h1, by simpa using h2, fun j hj => ?_⟩
  rw [List.length_append] at hj
  simp at hj
  rw [Array.getElem?_setIfInBounds]
  by_cases e : L.length = j
  · subst e
    rw [if_pos rfl, if_pos (by omega)]
    simp
  · rw [if_neg e, h3 j (by omega)]
    simp [List.getD, List.getElem?_append_left (show j < L.length by omega)]
theorem WB.grown {w w' : World} {g m : Nat} {t : TypeId} {L : List Int} {row : Option Nat} (h : WB w g t m L) (hg : w.grownBy w' row) (hne : some g ≠ row) : WB w' g t m L := by
  obtain ⟨cur, h1, h2⟩ := h
  exact ⟨cur, (hg.block g (lt_heap h1) hne).trans h1, h2⟩
theorem WB.bel {w w' : World} {g m : Nat} {t : TypeId} {L : List Int} (h : WB w g t m L) (hb : Below w.heap.size w w') : WB w' g t m L := by
  obtain ⟨cur, h1, h2⟩ := h
  exact ⟨cur, (hb.block g (lt_heap h1)).trans h1, h2⟩
structure R8 where
  a : Int
  c : Int
  d : Int
  e : Int
  f : Int
  g : Int
  i : Int
  j : Int
def big1 (x : Int) : Int := bits .xor .u32 (bits .xor .u32 (rotI x 26) (rotI x 21)) (rotI x 7)
def big0 (x : Int) : Int := bits .xor .u32 (bits .xor .u32 (rotI x 30) (rotI x 19)) (rotI x 10)
def t1F (j s1 f g i k w : Int) : Int := ((j + s1 + bits .xor .u32 (bits .and .u32 f g) (bits .and .u32 (bits .xor .u32 (if IntKind.u32.signed = true then -1 else IntKind.u32.max) f) i) + k) % 4294967296 + w) % 4294967296
def R8.l (R : R8) : List Int := [R.a, R.c, R.d, R.e, R.f, R.g, R.i, R.j]
def rnd (X : R8) (k w : Int) : R8 :=
  ⟨(t1F X.j (big1 X.f) X.f X.g X.i k w + (big0 X.a + bits .xor .u32 (bits .xor .u32 (bits .and .u32 X.a X.c) (bits .and .u32 X.a X.d)) (bits .and .u32 X.c X.d)) % 4294967296) % 4294967296, X.a, X.c, X.d, (X.e + t1F X.j (big1 X.f) X.f X.g X.i k w) % 4294967296, X.f, X.g, X.i⟩
def rnds (K W : List Int) (R : R8) : Nat → R8
  | 0 => R
  | n + 1 => rnd (rnds K W R n) (K.getD n 0) (W.getD n 0)
def addR (R X : R8) : R8 := ⟨(R.a + X.a) % 4294967296, (R.c + X.c) % 4294967296, (R.d + X.d) % 4294967296, (R.e + X.e) % 4294967296, (R.f + X.f) % 4294967296, (R.g + X.g) % 4294967296, (R.i + X.i) % 4294967296, (R.j + X.j) % 4294967296⟩
/-- What a block makes of a state. -/
def blockF (K : List Int) (R : R8) (l : List UInt8) : R8 := addR R (rnds K (schedL l 64) R 64)
def w32s (l : List Int) : List Value := l.map (Value.int .u32)
/-- A row whose first cells are written over. -/
def over (cur : Array Value) (vs : List Value) : Array Value := (vs ++ cur.toList.drop vs.length).toArray
theorem over_nil (cur : Array Value) : over cur [] = cur := by simp [over]
theorem over_size (cur : Array Value) (vs : List Value) (h : vs.length ≤ cur.size) : (over cur vs).size = cur.size := by
  simp [over]; omega
theorem over_get (cur : Array Value) (vs : List Value) (j : Nat) (h : vs.length ≤ j) : (over cur vs)[j]? = cur[j]? := by
  simp only [over, List.getElem?_toArray]
  rw [List.getElem?_append_right h, List.getElem?_drop, Nat.add_sub_cancel' h, Array.getElem?_toList]
theorem over_set (cur : Array Value) (vs : List Value) (v : Value) (h : vs.length < cur.size) : (over cur vs).setIfInBounds vs.length v = over cur (vs ++ [v]) := by
  apply Array.ext_getElem?
  intro i
  rw [Array.getElem?_setIfInBounds, over_size _ _ (by omega)]
  by_cases e : vs.length = i
  · subst e
    rw [if_pos rfl, if_pos h]
    simp only [over, List.getElem?_toArray]
    rw [List.getElem?_append_left (by simp), List.getElem?_append_right (Nat.le_refl _)]
    simp
  · rw [if_neg e]
    rcases Nat.lt_or_ge i vs.length with h' | h'
    · simp only [over, List.getElem?_toArray]
      rw [List.getElem?_append_left h', List.getElem?_append_left (by simp; omega), List.getElem?_append_left h']
    · rw [over_get _ _ _ h', over_get _ _ _ (by simp; omega)]
end Go.Proofs.YtnkcnnmhgomphaaDoor
