/- Roots: lists read at a place, what is built, what is copied in. No conditions. -/
import Derived.Test.YtbpgbihcihnieaaV5
namespace Go.Proofs.Ytbpgbihcihnieaa
open Go.RowKit
/-- The item k of a list, in whatever comes later. -/
def ItmAt (w : World) (b i : Nat) (l : List UInt8) : Prop := ∃ A c, l.length ≤ c ∧ ∀ w', Below w.heap.size w w' → w'.cell? ⟨b, i, none⟩ = some (.slice A l.length c) ∧ Reads w' w'.heap.size 1 A l.length (bvs l)
theorem lists_at {w : World} {A : Option Addr} {ls : List (List UInt8)} (h : Lists w w.heap.size A ls) (h0 : 0 < ls.length) : ∃ b off, A = some ⟨b, off, none⟩ ∧ b < w.heap.size ∧ ∀ (k : Nat) (hk : k < ls.length), ItmAt w b (off + k) ls[k] := by
  obtain ⟨vs, hr, hi⟩ := h
  obtain ⟨b, off, u, rfl, hb, _, _⟩ := hr.at_ h0
  refine ⟨b, off, rfl, hb, fun k hk => ?_⟩
  obtain ⟨A', c', hv, hle, hr'⟩ := hi k hk
  obtain ⟨b2, off2, u2, he, _, hu, hc⟩ := hr.at_ hk
  cases he
  rw [hu] at hv; cases hv
  exact ⟨A', c', hle, fun w' hb' => ⟨(hb'.cell (p := ⟨b, off + k, none⟩) hb).trans hc, (hr'.keep fun _ hp => hb'.cell hp).more hb'.size⟩⟩
theorem openV_list {l word : List UInt8} {n : Nat} {ls : List (List UInt8)} (h : openV l word n = some ls) : decV l = word :: ls ∧ decE l = 0 := by
  unfold openV at h
  split at h
  · rename_i h1
    cases h
    refine ⟨?_, h1.1⟩
    generalize decV l = m at *
    cases m with
    | nil => simp at h1
    | cons a m => have := h1.2.2; simp at this; rw [this]; rfl
  · cases h
theorem hz47 : ∀ w, (zeroValue 47).run Try.prog w = .ok (.agg rootZ.cs) w := fun w => by kernel_rfl
theorem rootZ_ok : rootZ.ok := ⟨by decide, by decide, by decide, by decide, by decide, by decide, by decide⟩
theorem fold_set (xs : List Value) : ∀ (off n : Nat) (cs : Array Value), off + n + xs.length ≤ cs.size →
    (xs.zipIdx n).foldl (fun cs (p : Value × Nat) => cs.setIfInBounds (off + p.2) p.1) cs = (cs.toList.take (off + n) ++ xs ++ cs.toList.drop (off + n + xs.length)).toArray := by
  induction xs with
  | nil => intro off n cs _; simp
  | cons x xs ih =>
    intro off n cs h
    rw [List.zipIdx_cons, List.foldl_cons, ih off (n + 1) _ (by simp at h ⊢; omega)]
    congr 1
    have e := list_seg_step cs.toList (off + n) x xs (by simp at h ⊢; omega)
    simpa [Array.toList_setIfInBounds, Nat.add_assoc] using e
theorem fill_one {place : Nat → Option (Nat × Nat)} {cells : Array Value} {i off : Nat} {v : Value} {rest : List (Nat × Value)} (hp : place i = some (off, v.cells.size)) (hs : off + v.cells.size ≤ cells.size) :
    Instr.fill place cells ((i, v) :: rest) = Instr.fill place (cells.toList.take off ++ v.cells.toList ++ cells.toList.drop (off + v.cells.size)).toArray rest := by
  have h1 := fold_set v.cells.toList off 0 cells (by simpa using hs)
  rw [Instr.fill, hp]
  simp only
  rw [if_neg (by simp; omega)]
  congr 1
  rw [← Array.foldl_toList, Array.toList_zipIdx]
  simpa using h1
theorem fill_seg {place : Nat → Option (Nat × Nat)} {cells : Array Value} {i : Nat} {v : Value} {rest : List (Nat × Value)} (pre old new post : List Value) (hc : cells = (pre ++ (old ++ post)).toArray) (hv : v.cells = new.toArray) (hp : place i = some (pre.length, new.length)) (ho : old.length = new.length) :
    Instr.fill place cells ((i, v) :: rest) = Instr.fill place (pre ++ (new ++ post)).toArray rest := by
  have hn : v.cells.size = new.length := by rw [hv]; simp
  rw [fill_one (off := pre.length) (by rw [hp, hn]) (by rw [hc, hn]; simp; omega), hv, hc]
  congr 1
  have e1 : (pre ++ (old ++ post)).toArray.toList = pre ++ (old ++ post) := by simp
  have e2 : new.toArray.toList = new := by simp
  have e3 : pre.length + new.toArray.size = (pre ++ old).length := by simp [ho]
  rw [e1, e2, e3, List.take_left, ← List.append_assoc pre old post, List.drop_left, List.append_assoc]
def rootPl : List (Nat × Nat) := [(0, 1), (1, 1), (2, 1), (3, 32), (35, 32), (67, 32), (99, 64)]
set_option maxRecDepth 100000 in
theorem built_root0 (ps : List (Nat × Value)) : (Try.prog).built 47 ps = Instr.fill (rootPl.toArray[·]?) rootZ.cs ps := by kernel_rfl
theorem built_root {e k g : Nat} {p h l : List UInt8} (hp : p.length = 32) (hh : h.length = 32) (hl : l.length = 32) :
    (Try.prog).built 47 [(0, .int .u64 e), (1, .int .u64 k), (2, .int .u64 g), (3, .agg (bvs p).toArray), (4, .agg (bvs h).toArray), (5, .agg (bvs l).toArray)] = some (RootV.mk e k g p h l (List.replicate 64 0)).cs := by
  rw [built_root0]
  let z32 : List Value := bvs (List.replicate 32 0)
  let z64 : List Value := bvs (List.replicate 64 0)
  have lz : z32.length = 32 := by simp [z32, bvs_length]
  refine (fill_seg [] [.int .u64 0] [.int .u64 e] (.int .u64 0 :: .int .u64 0 :: (z32 ++ (z32 ++ (z32 ++ z64)))) rfl rfl rfl rfl).trans ?_
  refine (fill_seg [.int .u64 e] [.int .u64 0] [.int .u64 k] (.int .u64 0 :: (z32 ++ (z32 ++ (z32 ++ z64)))) rfl rfl rfl rfl).trans ?_
  refine (fill_seg [.int .u64 e, .int .u64 k] [.int .u64 0] [.int .u64 g] (z32 ++ (z32 ++ (z32 ++ z64))) rfl rfl rfl rfl).trans ?_
  refine (fill_seg [.int .u64 e, .int .u64 k, .int .u64 g] z32 (bvs p) (z32 ++ (z32 ++ z64)) rfl rfl (by rw [bvs_length, hp]; rfl) (by rw [lz, bvs_length, hp])).trans ?_
  refine (fill_seg ([.int .u64 e, .int .u64 k, .int .u64 g] ++ bvs p) z32 (bvs h) (z32 ++ z64) (by simp) rfl (by rw [List.length_append, bvs_length, bvs_length, hp, hh]; rfl) (by rw [lz, bvs_length, hh])).trans ?_
  refine (fill_seg ([.int .u64 e, .int .u64 k, .int .u64 g] ++ (bvs p ++ bvs h)) z32 (bvs l) z64 (by simp) rfl (by rw [List.length_append, List.length_append, bvs_length, bvs_length, bvs_length, hp, hh, hl]; rfl) (by rw [lz, bvs_length, hl])).trans ?_
  rw [Instr.fill]
  congr 1
  simp [RootV.cs, RootV.vs, z64]
/-- The signature, copied in. -/
theorem root_sig {e k g : Nat} {p h l y : List UInt8} (hp : p.length = 32) (hh : h.length = 32) (hl : l.length = 32) (hy : y.length = 64) :
    ((RootV.mk e k g p h l (List.replicate 64 0)).cs.toList.take 99 ++ bvs (y.take 64) ++ (RootV.mk e k g p h l (List.replicate 64 0)).cs.toList.drop (99 + Nat.min 64 64)).toArray = (RootV.mk e k g p h l y).cs := by
  have e1 : (RootV.mk e k g p h l (List.replicate 64 0)).cs.toList = ([.int .u64 e, .int .u64 k, .int .u64 g] ++ (bvs p ++ (bvs h ++ bvs l))) ++ bvs (List.replicate 64 0) := by simp [RootV.cs, RootV.vs]
  have l1 : ([Value.int .u64 e, .int .u64 k, .int .u64 g] ++ (bvs p ++ (bvs h ++ bvs l))).length = 99 := by simp [bvs_length, hp, hh, hl]
  rw [e1, List.take_left' l1, List.drop_eq_nil_of_le (by rw [List.length_append, l1, bvs_length]; decide), List.take_of_length_le (by omega)]
  simp [RootV.cs, RootV.vs]
theorem ret47 {wr : World} {b : Nat} {cs : Array Value} (h : wr.there b 0 163) (hs : cs.size = 163) :
    (loadVar 47 ⟨b, 0, none⟩).run Try.prog (wr.setCells b 0 cs.toList) = .ok (.agg cs) (wr.setCells b 0 cs.toList) := by
  have h1 := run_loadVar_mid (P := Try.prog) (wr.setCells b 0 cs.toList) b 0 47 cs.toList _ (World.rangeAt_setCells_same _ _ _ _ (by rw [Array.length_toList, hs]; exact h)) Try.underlying47 rfl (by rw [Array.length_toList, hs]; kernel_rfl)
  rw [Array.toArray_toList] at h1
  exact h1
theorem root_one {r : RootV} : (r.cs.all fun x => x.oneCell') = true := by
  refine Array.all_eq_true'.2 fun v hv => ?_
  simp only [RootV.cs, RootV.vs, List.mem_toArray, List.mem_cons, List.mem_append] at hv
  rcases hv with rfl | rfl | rfl | h | h | h | h
  · rfl
  · rfl
  · rfl
  all_goals exact bvs_one _ v h
def RootPost (b : List UInt8) (w : World) (e : Ending) (w' : World) : Prop := e = .returned (.tuple #[.agg (rootR b).cs, .int .i64 (rootE b)]) ∧ Below w.heap.size w w'
theorem root_no {b : List UInt8} (h : rootD b = none) : rootR b = rootZ ∧ rootE b = 2 := by simp [rootR, rootE, h]
theorem root_yes {b : List UInt8} {r : RootV} (h : rootD b = some r) : rootR b = r ∧ rootE b = 0 := by simp [rootR, rootE, h]
theorem ret47r {wr : World} {b : Nat} {cs : Array Value} {t : TypeId} {f : Nat × Nat} (h : wr.heap[b]? = some (.cells cs t f)) (hs : cs.size = 163) :
    (loadVar 47 ⟨b, 0, none⟩).run Try.prog wr = .ok (.agg cs) wr := by
  have h1 := run_loadVar_mid (P := Try.prog) wr b 0 47 cs.toList _ (range_row h) Try.underlying47 rfl (by rw [Array.length_toList, hs]; kernel_rfl)
  rw [Array.toArray_toList] at h1
  exact h1
/-- A row that was made and filled. -/
theorem row_new (w : World) (zs s : Array Value) (t : TypeId) : Below w.heap.size w ((w.alloc (.cells zs t)).setRow w.heap.size s) ∧ ((w.alloc (.cells zs t)).setRow w.heap.size s).heap[w.heap.size]? = some (.cells s t (0, 0)) ∧ ((w.alloc (.cells zs t)).setRow w.heap.size s).heap.size = w.heap.size + 1 := by
  have h1 := Frm.setRow (w.alloc (.cells zs t)) w.heap.size s
  exact ⟨((Below.refl _ w).alloc (Nat.le_refl _) _).trans (h1.1.below (by simp) (by simp)), heap_setRow (heap_alloc_new w _), by rw [h1.2]; simp⟩
theorem wpList_build_to {P : Program} {ops : Array Oper} {rest : List Oper} {o : Oper} {a : Act} {w : World} {Q : Exit → Act → World → Prop} (hg : o.guard = none) (t : TypeId) (parts : Array (Nat × Operand)) (ho : o.op = .build t parts)
    (vs : List (Nat × Value)) (hvs : parts.toList.map (fun p => (p.1, a.eval p.2)) = vs) (cells : Array Value) (hb : P.built t vs = some cells)
    (h : wpList P ops Q rest (a.put o.dst (.agg cells)) w) : wpList P ops Q (o :: rest) a w := by
  have hv : (parts.map fun (i, x) => (i, a.eval x)).toList = vs := by rw [← hvs]; simp
  refine wpList_build hg t parts ho (by rw [hv, hb]; rfl) ?_
  rw [hv, hb]
  exact h
theorem numE_yes {l : List UInt8} (h : l.length = 8) : numE l = 0 := by simp [numE, h]
theorem numE_not {l : List UInt8} (h : ¬ l.length = 8) : numE l = 2 := by simp [numE, h]
theorem member_le {x : List UInt8} : ∀ {ls : List (List UInt8)}, x ∈ ls → x.length ≤ (members ls).length
  | [], h => by cases h
  | y :: ls, h => by
    simp only [members, List.length_append]
    rcases List.mem_cons.1 h with rfl | h
    · omega
    · have := member_le h
      omega
theorem openV_le {l word : List UInt8} {n : Nat} {ls : List (List UInt8)} (h : openV l word n = some ls) : ∀ x ∈ ls, x.length ≤ 140737488355328 := fun x hx => by
  obtain ⟨h1, h2⟩ := openV_list h
  rcases dec_cases l with ⟨_, ms, hm, hl, _, hle⟩ | ⟨h3, _⟩
  · rw [h1] at hm
    have h4 := member_le (ls := ms) (x := x) (by rw [← hm]; exact List.mem_cons_of_mem _ hx)
    have h5 : (members ms).length ≤ l.length := by rw [hl, List.length_append]; omega
    omega
  · rcases h3 with h3 | h3 <;> (rw [h2] at h3; cases h3)
end Go.Proofs.Ytbpgbihcihnieaa
