/- The texts V5 V6a V7 V8 V9 V10 of this work, merged by wip/merge.py. No conditions. -/
import Derived.Test.YtbpgbihcihnieaaQV1
import Derived.Laws.OwnMore
namespace Go.Proofs.Ytbpgbihcihnieaa
open Go.RowKit
theorem zeroRow32 : ∀ w, (zeroValue 44).run Try.prog w = .ok (.agg (bvs (List.replicate 32 0)).toArray) w := fun w => by kernel_rfl
theorem ret32 {wr : World} {b : Nat} {cs : Array Value} (h : wr.there b 0 32) (hs : cs.size = 32) :
    (loadVar 44 ⟨b, 0, none⟩).run Try.prog (wr.setCells b 0 cs.toList) = .ok (.agg cs) (wr.setCells b 0 cs.toList) := by
  have h1 := run_loadVar_mid (P := Try.prog) (wr.setCells b 0 cs.toList) b 0 44 cs.toList _ (World.rangeAt_setCells_same _ _ _ _ (by rw [Array.length_toList, hs]; exact h)) Try.underlying44 rfl (by rw [Array.length_toList, hs]; kernel_rfl)
  rw [Array.toArray_toList] at h1
  exact h1
def HashPost (x : List UInt8) (w : World) (e : Ending) (w' : World) : Prop := ∃ y : List UInt8, y.length = 32 ∧ (x.length = 32 → y = x) ∧ e = .returned (.tuple #[.agg (bvs y).toArray, .bool (decide (x.length = 32))]) ∧ Below w.heap.size w w'
set_option maxRecDepth 100000 in
set_option maxHeartbeats 1000000 in
theorem rHash_any (A : Option Addr) (n c : Nat) (x : List UInt8) (hx : x.length = n) (w : World) (hr : Reads w w.heap.size 1 A n (bvs x)) :
    Calls Try.prog 55 #[.slice A n c] w (HashPost x w) := by
  obtain ⟨zs, hzs⟩ : ∃ zs : Array Value, zs = (bvs (List.replicate 32 0)).toArray := ⟨_, rfl⟩
  have hz32 := zeroRow32
  rw [← hzs] at hz32
  have hzz : zs.size = 32 := by rw [hzs]; simp [bvs_length]
  have hb0 : Below w.heap.size w ((w.alloc (.cells zs 44)).alloc (.cells zs 44)) := ((Below.refl _ _).alloc (Nat.le_refl _) _).alloc (by simp) _
  have hbk : ((w.alloc (.cells zs 44)).alloc (.cells zs 44)).heap[w.heap.size + 1]? = some (.cells zs 44 (0, 0)) := by
    have h1 := heap_alloc_new (w.alloc (.cells zs 44)) (.cells zs 44)
    rw [show (w.alloc (.cells zs 44)).heap.size = w.heap.size + 1 from by simp] at h1
    exact h1
  have hth : ((w.alloc (.cells zs 44)).alloc (.cells zs 44)).there w.heap.size 0 32 := there_alloc (there_new w zs _ 32 (by omega)) (by simp) _
  obtain ⟨w1, hcp, hw1, hfr, hsz⟩ := copy_row (off := 0) (n := 32) (c := 32) (c2 := c) hbk (hr.keep fun _ hp => hb0.cell hp) hx (by omega)
  obtain ⟨y, hy⟩ : ∃ y, y = x.take 32 ++ List.replicate (32 - Nat.min n 32) 0 := ⟨_, rfl⟩
  have hyl : y.length = 32 := by
    have h_ : Nat.min n 32 ≤ 32 := Nat.min_le_right n 32
    rw [hy, List.length_append, List.length_take, List.length_replicate, hx, Nat.min_comm, show min n 32 = Nat.min n 32 from rfl]
    omega
  have hyx : x.length = 32 → y = x := fun e => by
    rw [hy, List.take_of_length_le (by omega), ← hx, e]
    simp
  rw [show (List.take 0 zs.toList ++ bvs (x.take 32) ++ List.drop (0 + Nat.min n 32) zs.toList).toArray = (bvs y).toArray from by
    rw [hy, hzs]
    simp only [bvs, List.take_zero, List.nil_append, Nat.zero_add, List.map_append, List.map_replicate, List.drop_replicate]] at hw1
  have H1 : Hid (w1.heap[w.heap.size + 1]? = some (.cells (bvs y).toArray 44 (0, 0)) ∧ w1.there w.heap.size 0 32 ∧ Below w.heap.size w w1) := by
    refine ⟨hw1, fun j hj => ?_, hb0.trans (hfr.below (by simp; omega) (by simp))⟩
    have h2 := hfr.block w.heap.size (by simp; omega) (by simp)
    rw [World.cell?_of_block (a := ⟨w.heap.size, 0 + j, none⟩) h2, World.frozen?_of_block (a := ⟨w.heap.size, 0 + j, none⟩) h2]
    exact hth j hj
  obtain ⟨cs, hcs⟩ : ∃ cs : Array Value, cs = (bvs y).toArray := ⟨_, rfl⟩
  rw [← hcs] at H1
  have Hcs := Lib.hid hcs
  have Hcz : Hid (cs.size = 32) := by show _ = _; rw [hcs]; simp [bvs_length, hyl]
  have Hy := Lib.hid (And.intro hyl hyx)
  obtain ⟨ok, hok⟩ : ∃ ok : Bool, ok = decide (x.length = 32) := ⟨_, rfl⟩
  have hn : ((n : Int) == 32) = ok := by
    rw [hok, Bool.eq_iff_iff, hx]
    simp
    omega
  have Hok := Lib.hid hok
  clear hbk hth hw1 hfr hsz hb0 hzs hcs hyl hyx hy hok hx hr hzz
  go_enter Try.func55, Try.ntmps55
  go_wp2_with (first
    | (refine wpList_load_arr rfl _ _ rfl (w.heap.size + 1) 0 rfl cs _ (by with_reducible exact range_row H1.out.1) Try.underlying44 rfl (by rw [Hcz.out]; kernel_rfl) ?_)
    | (refine wpList_store_mid rfl _ _ _ rfl w.heap.size 0 cs rfl rfl (by rw [Hcz.out]; with_reducible exact H1.out.2.1) (by rw [Hcz.out]; kernel_rfl) (by rw [Hcs.out]; exact all_oneCell_toArray (bvs_one _)) ?_))
  have hld := ret32 H1.out.2.1 Hcz.out
  refine bodyPost_ret (v := .tuple #[.agg cs, .bool ok]) (by simp [results, Try.results55, asAddr, hld]) rfl ⟨y, Hy.out.1, Hy.out.2, by rw [← Hcs.out, ← Hok.out], ?_⟩
  exact below_setCells _ _ _ H1.out.2.2 (Nat.le_refl _)
end Go.Proofs.Ytbpgbihcihnieaa

namespace Go.Proofs.Ytbpgbihcihnieaa
open Go.RowKit
/-- The item k of a list, in whatever comes later. -/
def ItmAt (w : World) (b i : Nat) (l : List UInt8) : Prop := ∃ A c, l.length ≤ c ∧ ∀ w', Below w.heap.size w w' → w'.cell? ⟨b, i, none⟩ = some (.slice A l.length c) ∧ Reads w' w'.heap.size 1 A l.length (bvs l)
theorem lists_at {w : World} {A : Option Addr} {ls : List (List UInt8)} (h : Lists w w.heap.size A ls) (h0 : 0 < ls.length) : ∃ b off, A = some ⟨b, off, none⟩ ∧ b < w.heap.size ∧ ∀ (k : Nat) (hk : k < ls.length), ItmAt w b (off + k) ls[k] := by
  obtain ⟨vs, hr, hi⟩ := h
  obtain ⟨b, off, u, rfl, hb, _, _⟩ := hr.at_ h0
  refine ⟨b, off, rfl, hb, fun k hk => ?_⟩
  obtain ⟨A', c', hv, hle, hr'⟩ := hi k hk
  obtain ⟨b2, off2, u2, he, _, hu, hc⟩ := hr.at_ hk
  cases he
  rw [hu] at hv; cases hv
  exact ⟨A', c', hle, fun w' hb' => ⟨(hb'.cell (p := ⟨b, off + k, none⟩) hb).trans hc, (hr'.keep fun _ hp => hb'.cell hp).more hb'.size⟩⟩
theorem openV_list {l word : List UInt8} {n : Nat} {ls : List (List UInt8)} (h : openV l word n = some ls) : decV l = word :: ls ∧ decE l = 0 := by
  unfold openV at h
  split at h
  · rename_i h1
    cases h
    refine ⟨?_, h1.1⟩
    generalize decV l = m at *
    cases m with
    | nil => simp at h1
    | cons a m => have := h1.2.2; simp at this; rw [this]; rfl
  · cases h
theorem hz47 : ∀ w, (zeroValue 47).run Try.prog w = .ok (.agg rootZ.cs) w := fun w => by kernel_rfl
theorem rootZ_ok : rootZ.ok := ⟨by decide, by decide, by decide, by decide, by decide, by decide, by decide⟩
theorem fold_set (xs : List Value) : ∀ (off n : Nat) (cs : Array Value), off + n + xs.length ≤ cs.size →
    (xs.zipIdx n).foldl (fun cs (p : Value × Nat) => cs.setIfInBounds (off + p.2) p.1) cs = (cs.toList.take (off + n) ++ xs ++ cs.toList.drop (off + n + xs.length)).toArray := by
  induction xs with
  | nil => intro off n cs _; simp
  | cons x xs ih =>
    intro off n cs h
    rw [List.zipIdx_cons, List.foldl_cons, ih off (n + 1) _ (by simp at h ⊢; omega)]
    congr 1
    have e := list_seg_step cs.toList (off + n) x xs (by simp at h ⊢; omega)
    simpa [Array.toList_setIfInBounds, Nat.add_assoc] using e
theorem fill_one {place : Nat → Option (Nat × Nat)} {cells : Array Value} {i off : Nat} {v : Value} {rest : List (Nat × Value)} (hp : place i = some (off, v.cells.size)) (hs : off + v.cells.size ≤ cells.size) :
    Instr.fill place cells ((i, v) :: rest) = Instr.fill place (cells.toList.take off ++ v.cells.toList ++ cells.toList.drop (off + v.cells.size)).toArray rest := by
  have h1 := fold_set v.cells.toList off 0 cells (by simpa using hs)
  rw [Instr.fill, hp]
  simp only
  rw [if_neg (by simp; omega)]
  congr 1
  rw [← Array.foldl_toList, Array.toList_zipIdx]
  simpa using h1
theorem fill_seg {place : Nat → Option (Nat × Nat)} {cells : Array Value} {i : Nat} {v : Value} {rest : List (Nat × Value)} (pre old new post : List Value) (hc : cells = (pre ++ (old ++ post)).toArray) (hv : v.cells = new.toArray) (hp : place i = some (pre.length, new.length)) (ho : old.length = new.length) :
    Instr.fill place cells ((i, v) :: rest) = Instr.fill place (pre ++ (new ++ post)).toArray rest := by
  have hn : v.cells.size = new.length := by rw [hv]; simp
  rw [fill_one (off := pre.length) (by rw [hp, hn]) (by rw [hc, hn]; simp; omega), hv, hc]
  congr 1
  have e1 : (pre ++ (old ++ post)).toArray.toList = pre ++ (old ++ post) := by simp
  have e2 : new.toArray.toList = new := by simp
  have e3 : pre.length + new.toArray.size = (pre ++ old).length := by simp [ho]
  rw [e1, e2, e3, List.take_left, ← List.append_assoc pre old post, List.drop_left, List.append_assoc]
def rootPl : List (Nat × Nat) := [(0, 1), (1, 1), (2, 1), (3, 32), (35, 32), (67, 32), (99, 64)]
set_option maxRecDepth 100000 in
theorem built_root0 (ps : List (Nat × Value)) : (Try.prog).built 47 ps = Instr.fill (rootPl.toArray[·]?) rootZ.cs ps := by kernel_rfl
theorem built_root {e k g : Nat} {p h l : List UInt8} (hp : p.length = 32) (hh : h.length = 32) (hl : l.length = 32) :
    (Try.prog).built 47 [(0, .int .u64 e), (1, .int .u64 k), (2, .int .u64 g), (3, .agg (bvs p).toArray), (4, .agg (bvs h).toArray), (5, .agg (bvs l).toArray)] = some (RootV.mk e k g p h l (List.replicate 64 0)).cs := by
  rw [built_root0]
  let z32 : List Value := bvs (List.replicate 32 0)
  let z64 : List Value := bvs (List.replicate 64 0)
  have lz : z32.length = 32 := by simp [z32, bvs_length]
  refine (fill_seg [] [.int .u64 0] [.int .u64 e] (.int .u64 0 :: .int .u64 0 :: (z32 ++ (z32 ++ (z32 ++ z64)))) rfl rfl rfl rfl).trans ?_
  refine (fill_seg [.int .u64 e] [.int .u64 0] [.int .u64 k] (.int .u64 0 :: (z32 ++ (z32 ++ (z32 ++ z64)))) rfl rfl rfl rfl).trans ?_
  refine (fill_seg [.int .u64 e, .int .u64 k] [.int .u64 0] [.int .u64 g] (z32 ++ (z32 ++ (z32 ++ z64))) rfl rfl rfl rfl).trans ?_
  refine (fill_seg [.int .u64 e, .int .u64 k, .int .u64 g] z32 (bvs p) (z32 ++ (z32 ++ z64)) rfl rfl (by rw [bvs_length, hp]; rfl) (by rw [lz, bvs_length, hp])).trans ?_
  refine (fill_seg ([.int .u64 e, .int .u64 k, .int .u64 g] ++ bvs p) z32 (bvs h) (z32 ++ z64) (by simp) rfl (by rw [List.length_append, bvs_length, bvs_length, hp, hh]; rfl) (by rw [lz, bvs_length, hh])).trans ?_
  refine (fill_seg ([.int .u64 e, .int .u64 k, .int .u64 g] ++ (bvs p ++ bvs h)) z32 (bvs l) z64 (by simp) rfl (by rw [List.length_append, List.length_append, bvs_length, bvs_length, bvs_length, hp, hh, hl]; rfl) (by rw [lz, bvs_length, hl])).trans ?_
  rw [Instr.fill]
  congr 1
  simp [RootV.cs, RootV.vs, z64]
/-- The signature, copied in. -/
theorem root_sig {e k g : Nat} {p h l y : List UInt8} (hp : p.length = 32) (hh : h.length = 32) (hl : l.length = 32) (hy : y.length = 64) :
    ((RootV.mk e k g p h l (List.replicate 64 0)).cs.toList.take 99 ++ bvs (y.take 64) ++ (RootV.mk e k g p h l (List.replicate 64 0)).cs.toList.drop (99 + Nat.min 64 64)).toArray = (RootV.mk e k g p h l y).cs := by
  have e1 : (RootV.mk e k g p h l (List.replicate 64 0)).cs.toList = ([.int .u64 e, .int .u64 k, .int .u64 g] ++ (bvs p ++ (bvs h ++ bvs l))) ++ bvs (List.replicate 64 0) := by simp [RootV.cs, RootV.vs]
  have l1 : ([Value.int .u64 e, .int .u64 k, .int .u64 g] ++ (bvs p ++ (bvs h ++ bvs l))).length = 99 := by simp [bvs_length, hp, hh, hl]
  rw [e1, List.take_left' l1, List.drop_eq_nil_of_le (by rw [List.length_append, l1, bvs_length]; decide), List.take_of_length_le (by omega)]
  simp [RootV.cs, RootV.vs]
theorem ret47 {wr : World} {b : Nat} {cs : Array Value} (h : wr.there b 0 163) (hs : cs.size = 163) :
    (loadVar 47 ⟨b, 0, none⟩).run Try.prog (wr.setCells b 0 cs.toList) = .ok (.agg cs) (wr.setCells b 0 cs.toList) := by
  have h1 := run_loadVar_mid (P := Try.prog) (wr.setCells b 0 cs.toList) b 0 47 cs.toList _ (World.rangeAt_setCells_same _ _ _ _ (by rw [Array.length_toList, hs]; exact h)) Try.underlying47 rfl (by rw [Array.length_toList, hs]; kernel_rfl)
  rw [Array.toArray_toList] at h1
  exact h1
theorem root_one {r : RootV} : (r.cs.all fun x => x.oneCell') = true := by
  refine Array.all_eq_true'.2 fun v hv => ?_
  simp only [RootV.cs, RootV.vs, List.mem_toArray, List.mem_cons, List.mem_append] at hv
  rcases hv with rfl | rfl | rfl | h | h | h | h
  · rfl
  · rfl
  · rfl
  all_goals exact bvs_one _ v h
def RootPost (b : List UInt8) (w : World) (e : Ending) (w' : World) : Prop := e = .returned (.tuple #[.agg (rootR b).cs, .int .i64 (rootE b)]) ∧ Below w.heap.size w w'
theorem root_no {b : List UInt8} (h : rootD b = none) : rootR b = rootZ ∧ rootE b = 2 := by simp [rootR, rootE, h]
theorem root_yes {b : List UInt8} {r : RootV} (h : rootD b = some r) : rootR b = r ∧ rootE b = 0 := by simp [rootR, rootE, h]
theorem ret47r {wr : World} {b : Nat} {cs : Array Value} {t : TypeId} {f : Nat × Nat} (h : wr.heap[b]? = some (.cells cs t f)) (hs : cs.size = 163) :
    (loadVar 47 ⟨b, 0, none⟩).run Try.prog wr = .ok (.agg cs) wr := by
  have h1 := run_loadVar_mid (P := Try.prog) wr b 0 47 cs.toList _ (range_row h) Try.underlying47 rfl (by rw [Array.length_toList, hs]; kernel_rfl)
  rw [Array.toArray_toList] at h1
  exact h1
/-- A row that was made and filled. -/
theorem row_new (w : World) (zs s : Array Value) (t : TypeId) : Below w.heap.size w ((w.alloc (.cells zs t)).setRow w.heap.size s) ∧ ((w.alloc (.cells zs t)).setRow w.heap.size s).heap[w.heap.size]? = some (.cells s t (0, 0)) ∧ ((w.alloc (.cells zs t)).setRow w.heap.size s).heap.size = w.heap.size + 1 := by
  have h1 := Frm.setRow (w.alloc (.cells zs t)) w.heap.size s
  exact ⟨((Below.refl _ w).alloc (Nat.le_refl _) _).trans (h1.1.below (by simp) (by simp)), heap_setRow (heap_alloc_new w _), by rw [h1.2]; simp⟩
theorem wpList_build_to {P : Program} {ops : Array Oper} {rest : List Oper} {o : Oper} {a : Act} {w : World} {Q : Exit → Act → World → Prop} (hg : o.guard = none) (t : TypeId) (parts : Array (Nat × Operand)) (ho : o.op = .build t parts)
    (vs : List (Nat × Value)) (hvs : parts.toList.map (fun p => (p.1, a.eval p.2)) = vs) (cells : Array Value) (hb : P.built t vs = some cells)
    (h : wpList P ops Q rest (a.put o.dst (.agg cells)) w) : wpList P ops Q (o :: rest) a w := by
  have hv : (parts.map fun (i, x) => (i, a.eval x)).toList = vs := by rw [← hvs]; simp
  refine wpList_build hg t parts ho (by rw [hv, hb]; rfl) ?_
  rw [hv, hb]
  exact h
theorem numE_yes {l : List UInt8} (h : l.length = 8) : numE l = 0 := by simp [numE, h]
theorem numE_not {l : List UInt8} (h : ¬ l.length = 8) : numE l = 2 := by simp [numE, h]
theorem member_le {x : List UInt8} : ∀ {ls : List (List UInt8)}, x ∈ ls → x.length ≤ (members ls).length
  | [], h => by cases h
  | y :: ls, h => by
    simp only [members, List.length_append]
    rcases List.mem_cons.1 h with rfl | h
    · omega
    · have := member_le h
      omega
theorem openV_le {l word : List UInt8} {n : Nat} {ls : List (List UInt8)} (h : openV l word n = some ls) : ∀ x ∈ ls, x.length ≤ 140737488355328 := fun x hx => by
  obtain ⟨h1, h2⟩ := openV_list h
  rcases dec_cases l with ⟨_, ms, hm, hl, _, hle⟩ | ⟨h3, _⟩
  · rw [h1] at hm
    have h4 := member_le (ls := ms) (x := x) (by rw [← hm]; exact List.mem_cons_of_mem _ hx)
    have h5 : (members ms).length ≤ l.length := by rw [hl, List.length_append]; omega
    omega
  · rcases h3 with h3 | h3 <;> (rw [h2] at h3; cases h3)
end Go.Proofs.Ytbpgbihcihnieaa

namespace Go.Proofs.Ytbpgbihcihnieaa
open Go.RowKit
/-- Cells that read as a list of bytes, in blocks from lo on and below hi. -/
def RdI (lo hi : Nat) (w : World) (A : Option Addr) (xs : List Value) : Prop := 0 < xs.length → ∃ b off, A = some ⟨b, off, none⟩ ∧ lo ≤ b ∧ b < hi ∧ ∀ j u, xs[j]? = some u → w.cell? ⟨b, off + j, none⟩ = some u
theorem RdI.keep {lo hi : Nat} {w w' : World} {A : Option Addr} {xs : List Value} {ps : List Nat} (h : RdI lo hi w A xs) (hf : Frm ps w w') (hhi : hi ≤ w.heap.size) (hp : ∀ p ∈ ps, p < lo ∨ hi ≤ p) : RdI lo hi w' A xs := fun h0 => by
  obtain ⟨b, off, rfl, h1, h2, h3⟩ := h h0
  refine ⟨b, off, rfl, h1, h2, fun j u hu => ?_⟩
  have h4 := hf.block b (by omega) (fun hb => by have := hp b hb; omega)
  rw [World.cell?_of_block (a := ⟨b, off + j, none⟩) h4]
  exact h3 j u hu
theorem RdI.reads {lo hi : Nat} {w : World} {A : Option Addr} {l : List UInt8} (h : RdI lo hi w A (bvs l)) (hhi : hi ≤ w.heap.size) : Reads w w.heap.size 1 A l.length (bvs l) := by
  refine ⟨by simp [bvs_length], fun h0 => ?_⟩
  obtain ⟨b, off, rfl, h1, h2, h3⟩ := h (by rw [bvs_length]; exact h0)
  exact ⟨_, rfl, by show b < _; omega, fun j u hu => by rw [add_none]; exact h3 j u hu⟩
/-- Items of a list, from an offset on. -/
def ItI (lo hi : Nat) (w : World) (A : Option Addr) (ls : List (List UInt8)) : Prop := 0 < ls.length → ∃ b off, A = some ⟨b, off, none⟩ ∧ lo ≤ b ∧ b < hi ∧ ∀ (k : Nat) (hk : k < ls.length), ∃ A' c', w.cell? ⟨b, off + k, none⟩ = some (.slice A' ls[k].length c') ∧ ls[k].length ≤ c' ∧ RdI lo hi w A' (bvs ls[k])
theorem ItI.keep {lo hi : Nat} {w w' : World} {A : Option Addr} {ls : List (List UInt8)} {ps : List Nat} (h : ItI lo hi w A ls) (hf : Frm ps w w') (hhi : hi ≤ w.heap.size) (hp : ∀ p ∈ ps, p < lo ∨ hi ≤ p) : ItI lo hi w' A ls := fun h0 => by
  obtain ⟨b, off, rfl, h1, h2, h3⟩ := h h0
  refine ⟨b, off, rfl, h1, h2, fun k hk => ?_⟩
  obtain ⟨A', c', h4, h5, h6⟩ := h3 k hk
  have h7 := hf.block b (by omega) (fun hb => by have := hp b hb; omega)
  exact ⟨A', c', (World.cell?_of_block (a := ⟨b, off + k, none⟩) h7).trans h4, h5, h6.keep hf hhi hp⟩
theorem ItI.tail {lo hi : Nat} {w : World} {b off : Nat} {x : List UInt8} {ls : List (List UInt8)} (h : ItI lo hi w (some ⟨b, off, none⟩) (x :: ls)) : ItI lo hi w (some ⟨b, off + 1, none⟩) ls := fun h0 => by
  obtain ⟨b', off', he, h1, h2, h3⟩ := h (by simp)
  cases he
  refine ⟨b, off + 1, rfl, h1, h2, fun k hk => ?_⟩
  obtain ⟨A', c', h4, h5, h6⟩ := h3 (k + 1) (by simpa using hk)
  exact ⟨A', c', by rw [show off + 1 + k = off + (k + 1) from by omega]; exact h4, h5, h6⟩
/-- A *fields at p: what is left of its list, and whether something was bad. -/
structure Fld (w : World) (p lo : Nat) (ls : List (List UInt8)) (bad : Bool) : Prop where
  cells : ∃ A c, w.heap[p]? = some (.cells #[.slice A ls.length c, .bool bad] 88 (0, 0)) ∧ ls.length ≤ c ∧ ItI lo p w A ls
  lo : lo ≤ p
theorem Fld.lt {w : World} {p lo : Nat} {ls : List (List UInt8)} {bad : Bool} (h : Fld w p lo ls bad) : p < w.heap.size := by
  obtain ⟨A, c, h1, _⟩ := h.cells
  exact lt_of_heap h1
theorem Fld.keep {w w' : World} {p lo : Nat} {ls : List (List UInt8)} {bad : Bool} {ps : List Nat} (h : Fld w p lo ls bad) (hf : Frm ps w w') (hp : ∀ q ∈ ps, q < lo ∨ p < q) : Fld w' p lo ls bad := by
  obtain ⟨A, c, h1, h2, h3⟩ := h.cells
  have hlt := h.lt
  exact ⟨⟨A, c, hf.heap h1 (fun hq => by have := hp p hq; have := h.lo; omega), h2, h3.keep hf (by omega) (fun q hq => by have := hp q hq; omega)⟩, h.lo⟩
theorem Fld.put {w : World} {p lo : Nat} {ls : List (List UInt8)} {bad : Bool} {A A2 : Option Addr} {n c c2 : Nat} (hp : w.heap[p]? = some (.cells #[.slice A n c, .bool bad] 88 (0, 0))) (hlo : lo ≤ p) (hi : ItI lo p w A2 ls) (hc : ls.length ≤ c2) :
    Fld (w.setCell ⟨p, 0, none⟩ (.slice A2 ls.length c2)) p lo ls bad ∧ Frm [p] w (w.setCell ⟨p, 0, none⟩ (.slice A2 ls.length c2)) := by
  have hf := Frm.setCell w p 0 (.slice A2 ls.length c2)
  exact ⟨⟨⟨A2, c2, heap_setCell_same w p 0 _ _ _ hp, hc, hi.keep hf (Nat.le_of_lt (lt_of_heap hp)) (by simp)⟩, hlo⟩, hf⟩
def NextPost (x : List UInt8) (ls : List (List UInt8)) (bad : Bool) (p lo : Nat) (w : World) (e : Ending) (w' : World) : Prop := ∃ A c, e = .returned (.slice A x.length c) ∧ x.length ≤ c ∧ RdI lo p w' A (bvs x) ∧ Fld w' p lo ls bad ∧ Frm [p] w w'
set_option maxRecDepth 100000 in
set_option maxHeartbeats 1000000 in
theorem next_any (x : List UInt8) (ls : List (List UInt8)) (bad : Bool) (p lo : Nat) (w : World) (h : Fld w p lo (x :: ls) bad) : Calls Try.prog 51 #[.pointer (some ⟨p, 0, none⟩)] w (NextPost x ls bad p lo w) := by
  obtain ⟨A, c, hp, hc, hi⟩ := h.cells
  have hlt := h.lt
  have hlo := h.lo
  obtain ⟨b, off, rfl, h1, h2, h3⟩ := hi (by simp)
  obtain ⟨A', c', h4, h5, h6⟩ := h3 0 (by simp)
  have ht := hi.tail
  have e0 : w.cell? ⟨p, 0, none⟩ = some (.slice (some ⟨b, off, none⟩) (ls.length + 1) c) := by rw [cell_of_row w p 0 _ _ _ hp]; rfl
  have e1 : w.cell? ⟨b, off, none⟩ = some (.slice A' x.length c') := by have h_ := h4; rw [Nat.add_zero] at h_; exact h_
  have hfz := frozen_row hp 0
  have hcI : ((ls.length : Int) + 1) ≤ (c : Int) := by simp at hc; omega
  have H := Lib.hid (And.intro hp (And.intro hlt (And.intro hlo (And.intro h5 (And.intro h6 ht)))))
  clear h hp hlt hlo hi h1 h2 h3 h4 h5 h6 ht hc
  by_cases h1 : c = 1
  · subst h1
    have hl0 : ls.length = 0 := by omega
    have hn : ls = [] := List.eq_nil_of_length_eq_zero hl0
    subst hn
    have h2 := Fld.put (A2 := some ⟨b, off, none⟩) (c2 := 0) (ls := []) H.out.1 H.out.2.2.1 (fun h0 => by simp at h0) (by simp)
    have H2 := Lib.hid h2
    clear h2 hcI hl0
    go_enter Try.func51, Try.ntmps51
    go_wp2
    go_ret
    exact ⟨_, _, rfl, H.out.2.2.2.1, H.out.2.2.2.2.1.keep H2.out.2 (Nat.le_of_lt H.out.2.1) (by simp), H2.out.1, H2.out.2⟩
  · have H2 := Lib.hid (Fld.put (A2 := some ⟨b, off + 1, none⟩) (c2 := c - 1) H.out.1 H.out.2.2.1 H.out.2.2.2.2.2 (by omega))
    go_enter Try.func51, Try.ntmps51
    go_wp2
    go_ret
    exact ⟨_, _, rfl, H.out.2.2.2.1, H.out.2.2.2.2.1.keep H2.out.2 (Nat.le_of_lt H.out.2.1) (by simp), H2.out.1, H2.out.2⟩
end Go.Proofs.Ytbpgbihcihnieaa

namespace Go.Proofs.Ytbpgbihcihnieaa
open Go.RowKit
theorem Fld.setBad {w : World} {p lo : Nat} {ls : List (List UInt8)} {bad : Bool} (bad' : Bool) (h : Fld w p lo ls bad) :
    Fld (w.setCell ⟨p, 1, none⟩ (.bool bad')) p lo ls bad' ∧ Frm [p] w (w.setCell ⟨p, 1, none⟩ (.bool bad')) := by
  obtain ⟨A, c, hp, hc, hi⟩ := h.cells
  have hf := Frm.setCell w p 1 (.bool bad')
  exact ⟨⟨⟨A, c, heap_setCell_same w p 1 _ _ _ hp, hc, hi.keep hf (Nat.le_of_lt (lt_of_heap hp)) (by simp)⟩, h.lo⟩, hf⟩
theorem Fld.bad_at {w : World} {p lo : Nat} {ls : List (List UInt8)} {bad : Bool} (h : Fld w p lo ls bad) : w.cell? ⟨p, 1, none⟩ = some (.bool bad) ∧ w.frozen? ⟨p, 1, none⟩ = false := by
  obtain ⟨A, c, hp, hc, hi⟩ := h.cells
  exact ⟨by rw [cell_of_row w p 1 _ _ _ hp]; rfl, frozen_row hp 1⟩
def SizedPost (x : List UInt8) (ls : List (List UInt8)) (bad : Bool) (n p lo : Nat) (w : World) (e : Ending) (w' : World) : Prop := ∃ A c, e = .returned (.slice A x.length c) ∧ x.length ≤ c ∧ RdI lo p w' A (bvs x) ∧ Fld w' p lo ls (bad || !decide (x.length = n)) ∧ Frm [p] w w'
set_option maxRecDepth 100000 in
set_option maxHeartbeats 1000000 in
theorem sized_any (x : List UInt8) (ls : List (List UInt8)) (bad : Bool) (n p lo : Nat) (X : Int) (hX : X = (n : Int)) (w : World) (h : Fld w p lo (x :: ls) bad) : Calls Try.prog 79 #[.pointer (some ⟨p, 0, none⟩), .int .i64 X] w (SizedPost x ls bad n p lo w) := by
  subst hX
  have H := Lib.hid h
  clear h
  obtain ⟨r, hr⟩ : ∃ r : Bool, r = (bad || !decide (x.length = n)) := ⟨_, rfl⟩
  have HR := Lib.hid hr
  cases bad with
  | true =>
    rw [Bool.true_or] at hr
    subst hr
    go_enter Try.func79, Try.ntmps79
    go_wp2_with (go_at_call 51; go_must (refine (next_any x ls true p lo w H.out).mono ?_; rintro e w1 ⟨A, c, rfl, hc, hx, hf, hfr⟩; have G := Lib.hid (And.intro hc (And.intro hx (And.intro hf hfr))); obtain ⟨e1, hfz⟩ := hf.bad_at; clear hc hx hf hfr))
    go_ret
    have h2 := Fld.setBad true G.out.2.2.1
    exact ⟨_, _, rfl, G.out.1, G.out.2.1.keep h2.2 (Nat.le_of_lt G.out.2.2.1.lt) (by simp), by rw [← HR.out]; exact h2.1, G.out.2.2.2.trans h2.2⟩
  | false =>
    by_cases he : x.length = n
    · rw [decide_eq_true he] at hr
      have hr' : r = false := hr
      subst hr'
      have hI : ((x.length : Int) != (n : Int)) = false := by simp; omega
      clear hr he
      go_enter Try.func79, Try.ntmps79
      go_wp2_with (go_at_call 51; go_must (refine (next_any x ls false p lo w H.out).mono ?_; rintro e w1 ⟨A, c, rfl, hc, hx, hf, hfr⟩; have G := Lib.hid (And.intro hc (And.intro hx (And.intro hf hfr))); obtain ⟨e1, hfz⟩ := hf.bad_at; clear hc hx hf hfr))
      go_ret
      have h2 := Fld.setBad false G.out.2.2.1
      exact ⟨_, _, rfl, G.out.1, G.out.2.1.keep h2.2 (Nat.le_of_lt G.out.2.2.1.lt) (by simp), by rw [← HR.out]; exact h2.1, G.out.2.2.2.trans h2.2⟩
    · rw [decide_eq_false he] at hr
      have hr' : r = true := hr
      subst hr'
      have hI : ((x.length : Int) != (n : Int)) = true := by simp; omega
      clear hr he
      go_enter Try.func79, Try.ntmps79
      go_wp2_with (go_at_call 51; go_must (refine (next_any x ls false p lo w H.out).mono ?_; rintro e w1 ⟨A, c, rfl, hc, hx, hf, hfr⟩; have G := Lib.hid (And.intro hc (And.intro hx (And.intro hf hfr))); obtain ⟨e1, hfz⟩ := hf.bad_at; clear hc hx hf hfr))
      go_ret
      have h2 := Fld.setBad true G.out.2.2.1
      exact ⟨_, _, rfl, G.out.1, G.out.2.1.keep h2.2 (Nat.le_of_lt G.out.2.2.1.lt) (by simp), by rw [← HR.out]; exact h2.1, G.out.2.2.2.trans h2.2⟩
def NumFPost (x : List UInt8) (ls : List (List UInt8)) (bad : Bool) (p lo : Nat) (w : World) (e : Ending) (w' : World) : Prop := e = .returned (.int .u64 (numV x)) ∧ Fld w' p lo ls (bad || !decide (x.length = 8)) ∧ Frm [p] w w'
theorem Frm.drewN (ps : List Nat) (w : World) (q : Nat) : Frm ps w (w.drewN q) := ⟨rfl, rfl, rfl, Nat.le_refl _, fun _ _ _ => rfl⟩
set_option maxRecDepth 100000 in
set_option maxHeartbeats 1000000 in
theorem num_any (x : List UInt8) (ls : List (List UInt8)) (bad : Bool) (p lo : Nat) (w : World) (h : Fld w p lo (x :: ls) bad) (hm : x.length ≤ 140737488355328) : Calls Try.prog 53 #[.pointer (some ⟨p, 0, none⟩)] w (NumFPost x ls bad p lo w) := by
  have H := Lib.hid h
  have Hm := Lib.hid hm
  clear h hm
  obtain ⟨r, hr⟩ : ∃ r : Bool, r = (bad || !decide (x.length = 8)) := ⟨_, rfl⟩
  have HR := Lib.hid hr
  obtain ⟨z, hz, hzb⟩ : ∃ z : Int, numE x = z ∧ (z != 0) = !decide (x.length = 8) := ⟨_, rfl, by
    unfold numE
    by_cases h8 : x.length = 8
    · rw [if_pos h8, decide_eq_true h8]; rfl
    · rw [if_neg h8, decide_eq_false h8]; rfl⟩
  have Hz := Lib.hid hz
  clear hz
  cases bad with
  | true =>
    rw [Bool.true_or] at hr
    subst hr
    go_enter Try.func53, Try.ntmps53
    go_wp2_with (first
      | (go_at_call 51; go_must (refine (next_any x ls true p lo w H.out).mono ?_; rintro e w1 ⟨A, c, rfl, hc, hx, hf, hfr⟩; have G := Lib.hid (And.intro hc (And.intro hx (And.intro hf hfr))); obtain ⟨e1, hfz⟩ := hf.bad_at; clear hc hx hf hfr))
      | (go_at_call 20; go_must (refine (ReadNum_any A c _ x w1 (G.out.2.1.reads (Nat.le_of_lt G.out.2.2.1.lt)) G.out.1 Hm.out).mono ?_; rintro e w2 ⟨rfl, q, rfl⟩; rw [Hz.out]; have G2 := Lib.hid (And.intro (G.out.2.2.1.keep (Frm.drewN [] w1 q) (by simp)) (G.out.2.2.2.trans (Frm.drewN [p] w1 q))); obtain ⟨e2, hfz2⟩ := G2.out.1.bad_at)))
    go_ret
    have h2 := Fld.setBad true G2.out.1
    exact ⟨rfl, by rw [← HR.out]; exact h2.1, G2.out.2.trans h2.2⟩
  | false =>
    by_cases he : x.length = 8
    · rw [decide_eq_true he] at hr hzb
      rw [Bool.not_true] at hzb
      have hr' : r = false := hr
      subst hr'
      clear hr he
      go_enter Try.func53, Try.ntmps53
      go_wp2_with (first
        | (go_at_call 51; go_must (refine (next_any x ls false p lo w H.out).mono ?_; rintro e w1 ⟨A, c, rfl, hc, hx, hf, hfr⟩; have G := Lib.hid (And.intro hc (And.intro hx (And.intro hf hfr))); obtain ⟨e1, hfz⟩ := hf.bad_at; clear hc hx hf hfr))
        | (go_at_call 20; go_must (refine (ReadNum_any A c _ x w1 (G.out.2.1.reads (Nat.le_of_lt G.out.2.2.1.lt)) G.out.1 Hm.out).mono ?_; rintro e w2 ⟨rfl, q, rfl⟩; rw [Hz.out]; have G2 := Lib.hid (And.intro (G.out.2.2.1.keep (Frm.drewN [] w1 q) (by simp)) (G.out.2.2.2.trans (Frm.drewN [p] w1 q))); obtain ⟨e2, hfz2⟩ := G2.out.1.bad_at)))
      go_ret
      have h2 := Fld.setBad false G2.out.1
      exact ⟨rfl, by rw [← HR.out]; exact h2.1, G2.out.2.trans h2.2⟩
    · rw [decide_eq_false he] at hr hzb
      rw [Bool.not_false] at hzb
      have hr' : r = true := hr
      subst hr'
      clear hr he
      go_enter Try.func53, Try.ntmps53
      go_wp2_with (first
        | (go_at_call 51; go_must (refine (next_any x ls false p lo w H.out).mono ?_; rintro e w1 ⟨A, c, rfl, hc, hx, hf, hfr⟩; have G := Lib.hid (And.intro hc (And.intro hx (And.intro hf hfr))); obtain ⟨e1, hfz⟩ := hf.bad_at; clear hc hx hf hfr))
        | (go_at_call 20; go_must (refine (ReadNum_any A c _ x w1 (G.out.2.1.reads (Nat.le_of_lt G.out.2.2.1.lt)) G.out.1 Hm.out).mono ?_; rintro e w2 ⟨rfl, q, rfl⟩; rw [Hz.out]; have G2 := Lib.hid (And.intro (G.out.2.2.1.keep (Frm.drewN [] w1 q) (by simp)) (G.out.2.2.2.trans (Frm.drewN [p] w1 q))); obtain ⟨e2, hfz2⟩ := G2.out.1.bad_at)))
      go_ret
      have h2 := Fld.setBad true G2.out.1
      exact ⟨rfl, by rw [← HR.out]; exact h2.1, G2.out.2.trans h2.2⟩
end Go.Proofs.Ytbpgbihcihnieaa

namespace Go.Proofs.Ytbpgbihcihnieaa
open Go.RowKit
def FixedPost (x : List UInt8) (ls : List (List UInt8)) (bad : Bool) (n p lo s off : Nat) (C : Array Value) (t : TypeId) (w : World) (e : Ending) (w' : World) : Prop :=
  e = .returned (.tuple #[]) ∧ Fld w' p lo ls (bad || !decide (x.length = n)) ∧ Frm [p, s] w w' ∧ w'.heap[s]? = some (.cells (C.toList.take off ++ bvs (x.take n) ++ C.toList.drop (off + Nat.min x.length n)).toArray t (0, 0))
set_option maxRecDepth 100000 in
set_option maxHeartbeats 1000000 in
theorem fixed_any (x : List UInt8) (ls : List (List UInt8)) (bad : Bool) (n cap p lo s off : Nat) (C : Array Value) (t : TypeId) (w : World) (h : Fld w p lo (x :: ls) bad) (hs : w.heap[s]? = some (.cells C t (0, 0))) (hfit : off + n ≤ C.size) (hsp : s < lo ∨ p < s) :
    Calls Try.prog 52 #[.pointer (some ⟨p, 0, none⟩), .slice (some ⟨s, off, none⟩) n cap] w (FixedPost x ls bad n p lo s off C t w) := by
  have hlo := h.lo
  have hne : s ≠ p := by omega
  have H := Lib.hid (And.intro h (And.intro hs (And.intro hfit (And.intro hsp hne))))
  clear h hs hfit hsp hlo hne
  obtain ⟨r, hr⟩ : ∃ r : Bool, r = (bad || !decide (x.length = n)) := ⟨_, rfl⟩
  have HR := Lib.hid hr
  by_cases hmin : Nat.min x.length n = n
  · have hI : (((Nat.min x.length n : Nat) : Int) != (n : Int)) = false := by rw [hmin]; simp
    clear hr hmin
    go_enter Try.func52, Try.ntmps52
    go_wp2_with (go_at_call 79; go_must (refine (sized_any x ls bad n p lo _ rfl w H.out.1).mono ?_; rintro e w1 ⟨A, c, rfl, hc, hx, hf, hfr⟩; rw [← HR.out] at hf; have hs1 := hfr.heap H.out.2.1 (by simp; exact H.out.2.2.2.2); obtain ⟨w2, hcp, hw2, hfr2, hsz2⟩ := copy_row (off := off) (n := n) (c := cap) (c2 := c) hs1 (hx.reads (Nat.le_of_lt hf.lt)) rfl H.out.2.2.1; have hf2 := hf.keep hfr2 (by simp; exact H.out.2.2.2.1); obtain ⟨e2, hfz2⟩ := hf2.bad_at; have G := Lib.hid (And.intro hf2 (And.intro hw2 ((hfr.more (qs := [p, s]) (by simp)).trans (hfr2.more (by simp))))); clear hc hx hf hfr hs1 hw2 hfr2 hsz2 hf2))
    first
      | go_end0
      | (refine bodyPost_ret (results_none rfl _ _ _) rfl ?_)
    have h2 := Fld.setBad r G.out.1
    exact ⟨rfl, by rw [← HR.out]; exact h2.1, G.out.2.2.trans (h2.2.more (by simp)), h2.2.heap G.out.2.1 (by simp; exact H.out.2.2.2.2)⟩
  · have hI : (((Nat.min x.length n : Nat) : Int) != (n : Int)) = true := by simp only [bne_iff_ne, ne_eq, Int.ofNat_inj]; exact hmin
    have hrt : r = true := by
      rw [hr]
      have hx : ¬ x.length = n := fun e => hmin (by rw [e]; exact Nat.min_self n)
      simp [hx]
    subst hrt
    clear hr hmin
    go_enter Try.func52, Try.ntmps52
    go_wp2_with (go_at_call 79; go_must (refine (sized_any x ls bad n p lo _ rfl w H.out.1).mono ?_; rintro e w1 ⟨A, c, rfl, hc, hx, hf, hfr⟩; rw [← HR.out] at hf; have hs1 := hfr.heap H.out.2.1 (by simp; exact H.out.2.2.2.2); obtain ⟨w2, hcp, hw2, hfr2, hsz2⟩ := copy_row (off := off) (n := n) (c := cap) (c2 := c) hs1 (hx.reads (Nat.le_of_lt hf.lt)) rfl H.out.2.2.1; have hf2 := hf.keep hfr2 (by simp; exact H.out.2.2.2.1); obtain ⟨e2, hfz2⟩ := hf2.bad_at; have G := Lib.hid (And.intro hf2 (And.intro hw2 ((hfr.more (qs := [p, s]) (by simp)).trans (hfr2.more (by simp))))); clear hc hx hf hfr hs1 hw2 hfr2 hsz2 hf2))
    first
      | go_end0
      | (refine bodyPost_ret (results_none rfl _ _ _) rfl ?_)
    have h2 := Fld.setBad true G.out.1
    exact ⟨rfl, by rw [← HR.out]; exact h2.1, G.out.2.2.trans (h2.2.more (by simp)), h2.2.heap G.out.2.1 (by simp; exact H.out.2.2.2.2)⟩
end Go.Proofs.Ytbpgbihcihnieaa

namespace Go.Proofs.Ytbpgbihcihnieaa
open Go.RowKit
theorem rdI_own {w : World} {base n c : Nat} {A : Option Addr} {l : List UInt8} (h : Own8 w base (.slice A n c) l) : RdI base w.heap.size w A (bvs l) := fun h0 => by
  have hr := Own8.reads h
  have hn : (bvs l).length = n := by have := hr.1; omega
  obtain ⟨b, off, u, rfl, hb, _, _⟩ := hr.at_ (k := 0) (by omega)
  obtain ⟨ad, he, _, hc⟩ := hr.2 (by omega)
  cases he
  exact ⟨b, off, rfl, (own8_lt h b rfl).1, hb, fun j u hu => by have h_ := hc j u hu; rw [add_none] at h_; exact h_⟩
theorem itI_own {w : World} {base : Nat} {v : Value} {ls : List (List UInt8)} (h : OwnL w base v ls) : ∃ A c, v = .slice A ls.length c ∧ ls.length ≤ c ∧ ItI base w.heap.size w A ls := by
  obtain ⟨vs, h⟩ := h
  have hr := h.row
  obtain ⟨hl, h0 | ⟨g, cap, cur, rfl, hb, hh, hle, _⟩⟩ := h.row
  · obtain ⟨rfl, hn⟩ := h0
    have : ls = [] := List.eq_nil_of_length_eq_zero hn
    subst this
    exact ⟨none, 0, rfl, by simp, fun h0 => by simp at h0⟩
  · refine ⟨_, cap, rfl, hle, fun h0 => ?_⟩
    have hR := Reads.of_own hr
    obtain ⟨ad, he, hlt, hc⟩ := hR.2 h0
    cases he
    refine ⟨g, 0, rfl, hb, hlt, fun k hk => ?_⟩
    obtain ⟨u, hu, ho, _⟩ := h.each k hk
    obtain ⟨A, c, rfl, hcl, hrd⟩ := own8_form ho
    exact ⟨A, c, by have h_ := hc k _ hu; rw [add_none] at h_; exact h_, hcl, rdI_own ho⟩
/-- Where nothing was opened: so many fields that are nothing. -/
def noFields (n : Nat) : List (List UInt8) := List.replicate n []
theorem made_fields (n : Nat) (hn : n ≤ 100) : ∃ NS : Array Value, NS.size = n ∧ (∀ j, j < n → NS[j]? = some (.slice none 0 0)) ∧ (∀ w, (Instr.makeSlice 22 (.int .i64 (n : Int)) (.int .i64 (n : Int))).run Try.prog w = .ok (.slice (some ⟨w.heap.size, 0, none⟩) n n) (w.alloc (.cells NS 24))) := by
  obtain ⟨i0, hi0, hz0, hz1, hz2⟩ := info_parts slinfo
  refine ⟨madeCells (Value.slice none 0 0).cells (n * 1), ?_, ?_, fun w => ?_⟩
  · rw [size_madeCells, Nat.mul_one]
  · intro j hj
    rw [← Array.getElem?_toList, show (Value.slice none 0 0).cells = #[.slice none 0 0] from rfl, toList_madeCells_one, Nat.mul_one, List.getElem?_replicate, if_pos hj]
  · have h1 := run_makeSlice (P := Try.prog) (w := w) 22 _ i0 _ Try.underlying22 hi0 hz0 .i64 .i64 (n : Int) (n : Int) (by omega) (Int.le_refl _) (by rw [hz1]; simp; omega) (by rw [hz2]; omega) (by omega)
    rw [hz1] at h1
    simpa using h1
theorem noFields_it {lo hi b : Nat} {w : World} {NS : Array Value} {n : Nat} {t : TypeId} {f : Nat × Nat} (h : w.heap[b]? = some (.cells NS t f)) (h1 : lo ≤ b) (h2 : b < hi) (hj : ∀ j, j < n → NS[j]? = some (.slice none 0 0)) : ItI lo hi w (some ⟨b, 0, none⟩) (noFields n) := fun _ => by
  refine ⟨b, 0, rfl, h1, h2, fun k hk => ?_⟩
  have hk' : k < n := by simpa [noFields] using hk
  refine ⟨none, 0, ?_, ?_, fun h0 => ?_⟩
  · rw [cell_of_row w b (0 + k) _ _ _ h, Nat.zero_add, hj k hk']; simp [noFields]
  · simp [noFields]
  · simp [noFields, bvs] at h0
def OpenPost (b word : List UInt8) (n : Nat) (w : World) (e : Ending) (w' : World) : Prop := ∃ p, e = .returned (.pointer (some ⟨p, 0, none⟩)) ∧ Fld w' p w.heap.size ((openV b word n).getD (noFields n)) (!(openV b word n).isSome) ∧ Below w.heap.size w w'
theorem open_none {b word : List UInt8} {n : Nat} {w w1 : World} {NS : Array Value} (hb : Below w.heap.size w w1) (hj : ∀ j, j < n → NS[j]? = some (.slice none 0 0)) (ho : openV b word n = none) :
    OpenPost b word n w (.returned (.pointer (some ⟨w1.heap.size + 1, 0, none⟩))) ((w1.alloc (.cells NS 24)).alloc (.cells #[.slice (some ⟨w1.heap.size, 0, none⟩) n n, .bool true] 88)) := by
  have hsz : (w1.alloc (.cells NS 24)).heap.size = w1.heap.size + 1 := by simp
  refine ⟨_, rfl, ?_, (hb.alloc hb.size _).alloc (by rw [hsz]; have := hb.size; omega) _⟩
  rw [ho]
  refine ⟨⟨some ⟨w1.heap.size, 0, none⟩, n, ?_, by simp [noFields], ?_⟩, by have := hb.size; omega⟩
  · have h1 := heap_alloc_new (w1.alloc (.cells NS 24)) (.cells #[.slice (some ⟨w1.heap.size, 0, none⟩) n n, .bool true] 88)
    rw [hsz] at h1
    rw [h1]
    simp [noFields]
  · exact noFields_it (NS := NS) (by rw [Below.heap_alloc _ _ _ (by rw [hsz]; omega)]; exact heap_alloc_new w1 _) hb.size (by omega) hj
theorem open_some {b word x : List UInt8} {n b1 o1 c2 : Nat} {w w1 : World} {tl : List (List UInt8)} (hb : Below w.heap.size w w1) (hi : ItI w.heap.size w1.heap.size w1 (some ⟨b1, o1, none⟩) (x :: tl)) (hc : tl.length ≤ c2) (ho : openV b word n = some tl) :
    OpenPost b word n w (.returned (.pointer (some ⟨w1.heap.size, 0, none⟩))) (w1.alloc (.cells #[.slice (some ⟨b1, o1 + 1, none⟩) tl.length c2, .bool false] 88)) := by
  refine ⟨_, rfl, ?_, hb.alloc hb.size _⟩
  rw [ho]
  refine ⟨⟨some ⟨b1, o1 + 1, none⟩, c2, heap_alloc_new w1 _, hc, ?_⟩, hb.size⟩
  exact hi.tail.keep (Frm.of_below (ps := []) ((Below.refl _ w1).alloc (Nat.le_refl _) _)) (Nat.le_refl _) (by simp)
set_option maxRecDepth 100000 in
set_option maxHeartbeats 1000000 in
theorem open_any (A : Option Addr) (c n : Nat) (l word : List UInt8) (X : Int) (hX : X = (n : Int)) (hn : n ≤ 100) (hn0 : 0 < n) (w : World) (hr : Reads w w.heap.size 1 A l.length (bvs l)) (hc : l.length ≤ c) (hm : l.length ≤ 140737488355328) :
    Calls Try.prog 50 #[.slice A l.length c, .string ⟨word.toArray⟩, .int .i64 X] w (OpenPost l word n w) := by
  subst hX
  obtain ⟨NS, hNS, hNj, hmk⟩ := made_fields n hn
  have HNS := Lib.hid (And.intro hNS hNj)
  have hn64 : (n : Int) ≤ 100 := by omega
  have hnn : (0 : Int) ≤ (n : Int) := by omega
  have Hn0 := Lib.hid hn0
  clear hNS hNj hn hn0
  by_cases hE : decE l = 0
  · obtain ⟨ls, hls⟩ : ∃ ls, decV l = ls := ⟨_, rfl⟩
    have Hls := Lib.hid hls
    have HE := Lib.hid hE
    have HD : Hid (Calls Try.prog 25 #[.slice A l.length c] w fun e w1 => ∃ v, e = .returned (.tuple #[v, .int .i64 0]) ∧ OwnL w1 w.heap.size v ls ∧ Below w.heap.size w w1) := (Decode_any A c l w hr hc hm).mono (by
      rintro e w1 ⟨v, rfl, ho, hb⟩
      rw [hE]
      rw [hls] at ho
      exact ⟨v, rfl, ho, hb⟩)
    clear hr hc hm hE hls
    by_cases hlen : ls.length = n + 1
    · obtain ⟨x, tl, rfl⟩ : ∃ x tl, ls = x :: tl := by
        cases ls with
        | nil => simp at hlen
        | cons x tl => exact ⟨x, tl, rfl⟩
      have htl : tl.length = n := by simpa using hlen
      subst htl
      have HL := Lib.hid hlen
      clear hlen
      by_cases he : x = word
      · subst he
        have HO := Lib.hid (openV_yes HE.out (by rw [Hls.out]; exact HL.out) (show (decV l).getD 0 [] = x from (congrArg (fun m => m.getD 0 []) Hls.out).trans rfl))
        go_enter Try.func50, Try.ntmps50
        go_wp2_with (go_at_call 25; go_must (refine HD.out.mono ?_; rintro e w1 ⟨v, rfl, ho, hb⟩; obtain ⟨A1, c1, rfl, hc1, hi⟩ := itI_own ho; have HB := Lib.hid hb; have HI := Lib.hid hi; obtain ⟨b1, o1, rfl, h1, h2, h3⟩ := hi (by simp); obtain ⟨A', c', h4, h5, h6⟩ := h3 0 (by simp); rw [Nat.add_zero] at h4; have hcell : w1.cell? ⟨b1, o1, none⟩ = some (.slice A' x.length c') := h4; have h7 : RdI w.heap.size w1.heap.size w1 A' (bvs x) := h6; have hs := run_str8 (h7.reads (Nat.le_refl _)) c'; rw [List.length_cons]; have HC1 := Lib.hid hc1; have hc2 : tl.length + 1 ≤ c1 := hc1; have hcI : ((tl.length : Int) + 1) ≤ (c1 : Int) := (by omega); have hcn : ¬ c1 = 1 := (by have h_ := Hn0.out; omega); clear ho hb hi h1 h2 h3 h4 h5 h6 h7 hc1 hc2))
        go_ret
        exact open_some HB.out HI.out (by have h_ := HC1.out; simp at h_; omega) (by rw [HO.out, Hls.out]; rfl)
      · have hne : (!x == word) = true := by simp [he]
        have HNO := Lib.hid (openV_word (n := tl.length) (l := l) (word := word) (by rw [Hls.out]; exact he))
        go_enter Try.func50, Try.ntmps50
        go_wp2_with (go_at_call 25; go_must (refine HD.out.mono ?_; rintro e w1 ⟨v, rfl, ho, hb⟩; obtain ⟨A1, c1, rfl, hc1, hi⟩ := itI_own ho; have HB := Lib.hid hb; obtain ⟨b1, o1, rfl, h1, h2, h3⟩ := hi (by simp); obtain ⟨A', c', h4, h5, h6⟩ := h3 0 (by simp); rw [Nat.add_zero] at h4; have hcell : w1.cell? ⟨b1, o1, none⟩ = some (.slice A' x.length c') := h4; have h7 : RdI w.heap.size w1.heap.size w1 A' (bvs x) := h6; have hs := run_str8 (h7.reads (Nat.le_refl _)) c'; rw [List.length_cons]; clear ho hb hi h1 h2 h3 h4 h5 h6 h7 hc1))
        go_ret
        exact open_none HB.out HNS.out.2 HNO.out
    · have hlen' : ((ls.length : Int) != (n : Int) + 1) = true := by simp; omega
      have HNO := Lib.hid (openV_len (word := word) (n := n) (l := l) (by rw [Hls.out]; exact hlen))
      clear hlen
      go_enter Try.func50, Try.ntmps50
      go_wp2_with (go_at_call 25; go_must (refine HD.out.mono ?_; rintro e w1 ⟨v, rfl, ho, hb⟩; obtain ⟨A1, c1, rfl, hc1, hi⟩ := itI_own ho; have HB := Lib.hid hb; clear ho hb hi hc1))
      go_ret
      exact open_none HB.out HNS.out.2 HNO.out
  · have hX : ∃ x : Int, decE l = x ∧ ((x != 0) = true) ∧ decV l = [] := by
      rcases dec_cases l with h | ⟨h | h, h'⟩
      · exact absurd h.1 hE
      · exact ⟨2, h, rfl, h'⟩
      · exact ⟨6, h, rfl, h'⟩
    obtain ⟨x, hx, hx0, hv0⟩ := hX
    have HNO := Lib.hid (openV_bad (word := word) (n := n) hE)
    have HD : Hid (Calls Try.prog 25 #[.slice A l.length c] w fun e w1 => ∃ v, e = .returned (.tuple #[v, .int .i64 x]) ∧ OwnL w1 w.heap.size v (decV l) ∧ Below w.heap.size w w1) := (Decode_any A c l w hr hc hm).mono (by
      rintro e w1 ⟨v, rfl, ho, hb⟩
      rw [hx]
      exact ⟨v, rfl, ho, hb⟩)
    clear hr hc hm hE hx hv0
    go_enter Try.func50, Try.ntmps50
    go_wp2_with (go_at_call 25; go_must (refine HD.out.mono ?_; rintro e w1 ⟨v, rfl, ho, hb⟩; obtain ⟨A1, c1, rfl, hc1, hi⟩ := itI_own ho; have HB := Lib.hid hb; clear ho hb hi hc1))
    go_ret
    exact open_none HB.out HNS.out.2 HNO.out
end Go.Proofs.Ytbpgbihcihnieaa
