/- The texts M1 of this work, merged by wip/merge.py. No conditions. -/
import Derived.Test.YtbpgbihcihnieaaQN6b
import Derived.Lib.ConvBytes
namespace Go.Proofs.Ytbpgbihcihnieaa
open Go.RowKit
structure LookV where
  r : RootV
  a : List UInt8
  v : Nat
  dv : List UInt8
  fp : List UInt8
  fn : List NodeV
  sp : List UInt8
  sn : List NodeV
structure LookV.ok (q : LookV) : Prop where
  r : q.r.ok
  v : q.v < 18446744073709551616
  fp : q.fp.length = 80
  sp : q.sp.length = 80
  fn : ∀ u ∈ q.fn, u.ok
  sn : ∀ u ∈ q.sn, u.ok
structure LookA where
  Ad : Option Addr
  Af : Option Addr
  As : Option Addr
  nd : Nat
  cd : Nat
  cf : Nat
  cs : Nat
def lookW : List UInt8 := [108, 111, 111, 107, 117, 112]
theorem lookW_cells : (#[.int .u8 108, .int .u8 111, .int .u8 111, .int .u8 107, .int .u8 117, .int .u8 112] : Array Value) = (bvs lookW).toArray := rfl
def lookL (q : LookV) : List (List UInt8) := [lookW, signB q.r, q.a, be8 q.v, q.dv, q.fp, nodesB q.fn, q.sp, nodesB q.sn]
def lookG (q : LookV) : Bool := nodesG q.fn && nodesG q.sn
def lookB (q : LookV) : List UInt8 := if lookG q then encB (lookL q) else []
def lookE (q : LookV) : Int := if lookG q then encE (lookL q) else 1
def lookVs (q : LookV) (x : LookA) : List Value := q.r.vs ++ (.string ⟨q.a.toArray⟩ :: .int .u64 (q.v : Int) :: .slice x.Ad x.nd x.cd :: (bvs q.fp ++ (.slice x.Af q.fn.length x.cf :: (bvs q.sp ++ [.slice x.As q.sn.length x.cs]))))
structure LookIn (w : World) (cs : Array Value) (q : LookV) (x : LookA) : Prop where
  hcs : cs = (lookVs q x).toArray
  hok : q.ok
  hdv : Reads w w.heap.size 32 x.Ad x.nd (bvs q.dv)
  hdl : q.dv.length ≤ 140737488355328
  hfn : Reads w w.heap.size 65 x.Af q.fn.length (nodesV q.fn)
  hfl : q.fn.length ≤ 1954687338211
  hsn : Reads w w.heap.size 65 x.As q.sn.length (nodesV q.sn)
  hsl : q.sn.length ≤ 1954687338211
  hal : q.a.length ≤ 140737488355328
theorem LookIn.below {w w' : World} {cs : Array Value} {q : LookV} {x : LookA} (h : LookIn w cs q x) (hb : Below w.heap.size w w') : LookIn w' cs q x :=
  ⟨h.hcs, h.hok, (h.hdv.keep fun _ hp => hb.cell hp).more hb.size, h.hdl, (h.hfn.keep fun _ hp => hb.cell hp).more hb.size, h.hfl, (h.hsn.keep fun _ hp => hb.cell hp).more hb.size, h.hsl, h.hal⟩
theorem lookVs_len {q : LookV} (h : q.ok) (x : LookA) : (lookVs q x).length = 328 := by simp [lookVs, vs_root h.r, bvs_length, h.fp, h.sp]
theorem LookIn.size {w : World} {cs : Array Value} {q : LookV} {x : LookA} (h : LookIn w cs q x) : cs.size = 328 := by rw [h.hcs, List.size_toArray, lookVs_len h.hok]
theorem get_right {α : Type} {l m : List α} {n k : Nat} (h : l.length = n) : (l ++ m)[n + k]? = m[k]? := by rw [List.getElem?_append_right (by omega), h, show n + k - n = k from by omega]
theorem get_left {α : Type} {l m : List α} {n k : Nat} (h : l.length = n) (hk : k < n) : (l ++ m)[k]? = l[k]? := List.getElem?_append_left (by omega)
/-- The cells of an opening. -/
def opC (p : List UInt8) (v : Value) : Array Value := (bvs p ++ [v]).toArray
theorem lookVs_at {q : LookV} (h : q.ok) (x : LookA) :
    (∀ j, j < 163 → (lookVs q x)[j]? = q.r.vs[j]?) ∧ (lookVs q x)[163]? = some (.string ⟨q.a.toArray⟩) ∧ (lookVs q x)[164]? = some (.int .u64 (q.v : Int)) ∧ (lookVs q x)[165]? = some (.slice x.Ad x.nd x.cd) ∧
    (∀ j, j < 81 → (lookVs q x)[166 + j]? = (opC q.fp (.slice x.Af q.fn.length x.cf))[j]?) ∧ (∀ j, j < 81 → (lookVs q x)[247 + j]? = (opC q.sp (.slice x.As q.sn.length x.cs))[j]?) := by
  have h1 := vs_root h.r
  have hf : (bvs q.fp).length = 80 := by rw [bvs_length, h.fp]
  have hs : (bvs q.sp).length = 80 := by rw [bvs_length, h.sp]
  have f1 : ∀ k, (lookVs q x)[163 + k]? = _ := fun k => get_right h1
  have f2 : ∀ k, (lookVs q x)[166 + k]? = (bvs q.fp ++ (.slice x.Af q.fn.length x.cf :: (bvs q.sp ++ [.slice x.As q.sn.length x.cs])))[k]? := fun k => by
    rw [show 166 + k = 163 + (k + 3) from by omega, f1]; rfl
  refine ⟨fun j hj => get_left h1 hj, ?_, ?_, ?_, fun j hj => ?_, fun j hj => ?_⟩
  · rw [show 163 = 163 + 0 from rfl, f1]; rfl
  · rw [show 164 = 163 + 1 from rfl, f1]; rfl
  · rw [show 165 = 163 + 2 from rfl, f1]; rfl
  · rw [f2, opC, List.getElem?_toArray]
    rcases Nat.lt_or_ge j 80 with h3 | h3
    · rw [get_left hf h3, get_left hf h3]
    · obtain rfl : j = 80 := by omega
      rw [show 80 = 80 + 0 from rfl, get_right hf, get_right hf]; rfl
  · rw [show 247 + j = 166 + (80 + (j + 1)) from by omega, f2, get_right hf, List.getElem?_cons_succ, opC, List.getElem?_toArray]
theorem LookIn.at_ {w v : World} {b : Nat} {cs : Array Value} {q : LookV} {x : LookA} {t : TypeId} {f : Nat × Nat} (h : LookIn w cs q x) (hb : v.heap[b]? = some (.cells cs t f)) :
    v.cell? ⟨b, 163, none⟩ = some (.string ⟨q.a.toArray⟩) ∧ v.cell? ⟨b, 164, none⟩ = some (.int .u64 (q.v : Int)) ∧ v.cell? ⟨b, 165, none⟩ = some (.slice x.Ad x.nd x.cd) ∧ v.cell? ⟨b, 246, none⟩ = some (.slice x.Af q.fn.length x.cf) ∧ v.cell? ⟨b, 327, none⟩ = some (.slice x.As q.sn.length x.cs) := by
  obtain ⟨_, h3, h4, h5, h6, h7⟩ := lookVs_at h.hok x
  have hf : (bvs q.fp).length = 80 := by rw [bvs_length, h.hok.fp]
  have hs : (bvs q.sp).length = 80 := by rw [bvs_length, h.hok.sp]
  refine ⟨?_, ?_, ?_, ?_, ?_⟩
  · rw [cell_of_row v b _ _ _ _ hb, h.hcs, List.getElem?_toArray, h3]
  · rw [cell_of_row v b _ _ _ _ hb, h.hcs, List.getElem?_toArray, h4]
  · rw [cell_of_row v b _ _ _ _ hb, h.hcs, List.getElem?_toArray, h5]
  · rw [cell_of_row v b _ _ _ _ hb, h.hcs, List.getElem?_toArray, show 246 = 166 + 80 from rfl, h6 80 (by omega), opC, List.getElem?_toArray, show 80 = 80 + 0 from rfl, get_right hf]; rfl
  · rw [cell_of_row v b _ _ _ _ hb, h.hcs, List.getElem?_toArray, show 327 = 247 + 80 from rfl, h7 80 (by omega), opC, List.getElem?_toArray, show 80 = 80 + 0 from rfl, get_right hs]; rfl
theorem some_lt {α : Type} {l : List α} {j n : Nat} {u : α} (h : l[j]? = some u) (hl : l.length = n) : j < n := by
  have := (List.getElem?_eq_some_iff.1 h).1
  omega
theorem opC_len {p : List UInt8} (v : Value) (h : p.length = 80) : (opC p v).toList.length = 81 := by simp [opC, bvs_length, h]
theorem LookIn.rows {w v : World} {b : Nat} {cs : Array Value} {q : LookV} {x : LookA} {t : TypeId} {f : Nat × Nat} (h : LookIn w cs q x) (hb : v.heap[b]? = some (.cells cs t f)) :
    v.rangeAt b 0 q.r.cs.toList ∧ v.rangeAt b 166 (opC q.fp (.slice x.Af q.fn.length x.cf)).toList ∧ v.rangeAt b 247 (opC q.sp (.slice x.As q.sn.length x.cs)).toList := by
  obtain ⟨h2, _, _, _, h6, h7⟩ := lookVs_at h.hok x
  refine ⟨fun j u hu => ?_, fun j u hu => ?_, fun j u hu => ?_⟩
  · have hj := some_lt hu (n := 163) (by simp [RootV.cs, vs_root h.hok.r])
    rw [Nat.zero_add, cell_of_row v b _ _ _ _ hb, h.hcs, List.getElem?_toArray, h2 j hj]
    exact hu
  · have hj := some_lt hu (opC_len _ h.hok.fp)
    rw [cell_of_row v b _ _ _ _ hb, h.hcs, List.getElem?_toArray, h6 j hj, ← Array.getElem?_toList]
    exact hu
  · have hj := some_lt hu (opC_len _ h.hok.sp)
    rw [cell_of_row v b _ _ _ _ hb, h.hcs, List.getElem?_toArray, h7 j hj, ← Array.getElem?_toList]
    exact hu
theorem LookIn.items {w v : World} {b : Nat} {cs : Array Value} {q : LookV} {x : LookA} {t : TypeId} {f : Nat × Nat} (h : LookIn w cs q x) (hb : v.heap[b]? = some (.cells cs t f)) :
    Itm v (.slice (some ⟨b, 166, none⟩) 80 80) q.fp ∧ Itm v (.slice (some ⟨b, 247, none⟩) 80 80) q.sp := by
  obtain ⟨_, _, _, _, h6, h7⟩ := lookVs_at h.hok x
  have hf : (bvs q.fp).length = 80 := by rw [bvs_length, h.hok.fp]
  have hs : (bvs q.sp).length = 80 := by rw [bvs_length, h.hok.sp]
  refine ⟨Itm.at_ hb h.hok.fp fun j hj => ?_, Itm.at_ hb h.hok.sp fun j hj => ?_⟩
  · rw [h.hcs, List.getElem?_toArray, h6 j (by omega), opC, List.getElem?_toArray, get_left hf hj]
  · rw [h.hcs, List.getElem?_toArray, h7 j (by omega), opC, List.getElem?_toArray, get_left hs hj]
/-- []byte of a string: a new row. -/
theorem bytes_world (w : World) (l : List UInt8) : Below w.heap.size w (Lib.bytesWorld w 5 ⟨l.toArray⟩) ∧ Itm (Lib.bytesWorld w 5 ⟨l.toArray⟩) (.slice (some ⟨w.heap.size, 0, none⟩) (ByteArray.mk l.toArray).size (grownCap w (ByteArray.mk l.toArray).size 0 5)) l := by
  have hn : (ByteArray.mk l.toArray).size = l.length := by simp [ByteArray.size]
  refine ⟨⟨?_, ?_, ?_, by rw [Lib.bytesWorld_size]; omega, fun k hk => Lib.bytesWorld_at_old w _ _ k hk⟩, ?_⟩
  all_goals try (unfold Lib.bytesWorld World.freeze; rw [if_neg (by decide)]; rfl)
  rw [hn]
  refine ⟨_, _, rfl, grownCap_ge _ _ _ _, by simp [bvs_length], fun _ => ⟨_, rfl, by rw [Lib.bytesWorld_size]; show w.heap.size < _; omega, fun j u hu => ?_⟩⟩
  have hj := some_lt hu (bvs_length l)
  rw [add_none, Nat.zero_add, Lib.bytesWorld_cell w _ _ j (by rw [hn]; exact hj), ← hu, bvs, List.getElem?_map, List.getElem?_eq_getElem hj]
  simp [bv, List.getD, hj]
def LookPost (q : LookV) (w : World) (e : Ending) (w' : World) : Prop := ∃ v, e = .returned (.tuple #[v, .int .i64 (lookE q)]) ∧ Own8 w' w.heap.size v (lookB q) ∧ Below w.heap.size w w'
end Go.Proofs.Ytbpgbihcihnieaa
