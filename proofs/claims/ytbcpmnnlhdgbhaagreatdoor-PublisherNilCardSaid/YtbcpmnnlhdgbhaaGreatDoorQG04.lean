/- The texts Reg7 Reg9 G1 Z4 Qt G2 of this work, merged by wip/merge.py. No conditions. -/
import Derived.Test.YtbcpmnnlhdgbhaaGreatDoorQG03
import Derived.Test.YtbcpmnnlhdgbhaaGreatDoorQG00
import Derived.Deep.MidRow
import Derived.Test.YtbcpmnnlhdgbhaaGreatDoorQG02
import Derived.BigQuiet
import Derived.Deep.QuietTactic
import Derived.StillTailTactics
import Derived.WalkKit
import Derived.Laws.CopyRow
import Derived.Laws.IdiomCopy
namespace Go.Proofs.YtbcpmnnlhdgbhaaGreatDoor
section
variable {P : Program} {ops : Array Oper} {Q : Act → World → Prop} {C : World → Prop}
theorem AnyC.startR {id n : Nat} {Q' : Exit → Act → World → Prop} {a : Act} {w : World} {l : List Oper} (C : World → Prop) (R : Act → World → Prop) (hm : P.follows .mixedOrders = true) (hn : l.length = n)
    (h : AnyC P l.toArray C R n (Array.replicate n false) a { w with drawn := w.drawn + 1 }) (hR : ∀ a w, R a w → Q' .normal a w) : (Code.region id l.toArray true).wp P Q' a w := by
  subst hn
  have hD : DC .any l.toArray (Array.replicate l.length false) := fun k o _ hk => by
    rw [Array.getD_eq_getD_getElem?] at hk
    rcases Nat.lt_or_ge k l.length with h' | h'
    · simp [h'] at hk
    · simp [h'] at hk
  refine wp_region_any hm (wpAny_of_anyZ (zs := []) (C := C) (Q := R) hR _ _ _ _ ?_)
  simpa using (h hD).2
theorem AnyC.step {i : Nat} {oi : Oper} {fuel : Nat} {listed : Array Bool} {a : Act} {w : World} (hi : ops[i]? = some oi) (hD : DC .any ops listed) (hir : i ∈ Region.ready .any ops listed)
    (h : wpList P ops (OnK (SoloC P ops C Q fuel (listed.setIfInBounds i true) a.defers)) [oi] a w) :
    okStep P ops i (fun a' w' => (noZ [] (listed.setIfInBounds i true) → C w') ∧ anyZ P .any ops [] C Q fuel (listed.setIfInBounds i true) a' w') a w := by
  have h1 := okOp_of_wp (fun a' w' hk => hk.1) h
  unfold okStep
  simp only [hi]
  split
  · rename_i hw1
    rw [if_pos hw1] at h1
    exact okOp_mono (fun v w' ⟨_, h3⟩ => ⟨fun _ => (h3 (hD.step hir)).1, (h3 (hD.step hir)).2⟩) h1
  · rename_i hw1
    rw [if_neg hw1] at h1
    exact ⟨fun _ => (h1.2 (hD.step hir)).1, (h1.2 (hD.step hir)).2⟩
theorem AnyC.two {i j : Nat} {oi oj : Oper} {fuel : Nat} {listed : Array Bool} {a : Act} {w : World} (hi : ops[i]? = some oi) (hj : ops[j]? = some oj) (hr : (Region.ready .any ops listed == [i, j]) = true) (hb : C w)
    (h : wpList P ops (OnK (SoloC P ops C Q fuel (listed.setIfInBounds i true) a.defers)) [oi] a w)
    (h' : wpList P ops (OnK (SoloC P ops C Q fuel (listed.setIfInBounds j true) a.defers)) [oj] a w) : AnyC P ops C Q (fuel + 1) listed a w := by
  intro hD
  have hr' : Region.ready .any ops listed = [i, j] := by simpa using hr
  refine ⟨hb, fun h0 => (by rw [hr'] at h0; cases h0), fun k hk => ?_⟩
  have hir := hk
  rw [hr'] at hk
  rcases List.mem_cons.1 hk with rfl | hk
  · exact AnyC.step hi hD hir h
  · obtain rfl : k = j := by simpa using hk
    exact AnyC.step hj hD hir h'
theorem AnyC.three {i j m : Nat} {oi oj om : Oper} {fuel : Nat} {listed : Array Bool} {a : Act} {w : World} (hi : ops[i]? = some oi) (hj : ops[j]? = some oj) (hm : ops[m]? = some om) (hr : (Region.ready .any ops listed == [i, j, m]) = true) (hb : C w)
    (h : wpList P ops (OnK (SoloC P ops C Q fuel (listed.setIfInBounds i true) a.defers)) [oi] a w)
    (h' : wpList P ops (OnK (SoloC P ops C Q fuel (listed.setIfInBounds j true) a.defers)) [oj] a w)
    (h'' : wpList P ops (OnK (SoloC P ops C Q fuel (listed.setIfInBounds m true) a.defers)) [om] a w) : AnyC P ops C Q (fuel + 1) listed a w := by
  intro hD
  have hr' : Region.ready .any ops listed = [i, j, m] := by simpa using hr
  refine ⟨hb, fun h0 => (by rw [hr'] at h0; cases h0), fun k hk => ?_⟩
  have hir := hk
  rw [hr'] at hk
  rcases List.mem_cons.1 hk with rfl | hk
  · exact AnyC.step hi hD hir h
  · rcases List.mem_cons.1 hk with rfl | hk
    · exact AnyC.step hj hD hir h'
    · obtain rfl : k = m := by simpa using hk
      exact AnyC.step hm hD hir h''
end
end Go.Proofs.YtbcpmnnlhdgbhaaGreatDoor

namespace Go.Proofs.YtbcpmnnlhdgbhaaGreatDoor
section
variable {P : Program} {ops : Array Oper} {Q : Act → World → Prop} {C : World → Prop} {zs : List Nat}
def AnyCZ (P : Program) (ops : Array Oper) (zs : List Nat) (C : World → Prop) (Q : Act → World → Prop) (fuel : Nat) (listed : Array Bool) (a : Act) (w : World) : Prop :=
  DC .any ops listed → C w ∧ anyZ P .any ops zs C Q fuel listed a w
theorem AnyCZ.start {id n : Nat} {Q' : Exit → Act → World → Prop} {a : Act} {w : World} {l : List Oper} (zs : List Nat) (C : World → Prop) (hm : P.follows .mixedOrders = true) (hn : l.length = n)
    (h : ∀ w', RowKit.Below w.heap.size w w' → AnyCZ P l.toArray zs C (fun a w => Q' .normal a w) n (Array.replicate n false) a w') : (Code.region id l.toArray true).wp P Q' a w := by
  subst hn
  have hD : DC .any l.toArray (Array.replicate l.length false) := fun k o _ hk => by
    rw [Array.getD_eq_getD_getElem?] at hk
    rcases Nat.lt_or_ge k l.length with h' | h'
    · simp [h'] at hk
    · simp [h'] at hk
  refine wp_region_any hm (wpAny_of_anyZ (zs := zs) (C := C) (fun _ _ h => h) _ _ _ _ ?_)
  simpa using (h { w with drawn := w.drawn + 1 } ⟨rfl, rfl, rfl, Nat.le_refl _, fun _ _ => rfl⟩ hD).2
theorem AnyCZ.take {i : Nat} {oi : Oper} {fuel : Nat} {listed : Array Bool} {a a' : Act} {w : World} (hi : ops[i]? = some oi)
    (hB : (Region.noSelect ops && (Region.free .any ops listed i && (Region.ready .any ops listed).contains i)) = true)
    (hZ : (zs.all (reachB .any ops ops.size i) && !zs.contains i) = true)
    (hd : (match oi.dst with | some d => decide (d < a.tmps.size) | none => false) = true)
    (hv : ∀ w, C w → ∀ K : Act → World → Prop, K a' w → wpList P ops (OnK K) [oi] a w) (hdf : a'.defers = a.defers)
    (h : AnyCZ P ops zs C Q fuel (listed.setIfInBounds i true) a' w) : AnyCZ P ops zs C Q (fuel + 1) listed a w := by
  rw [Bool.and_eq_true] at hZ
  have hB' := hB
  rw [Bool.and_eq_true, Bool.and_eq_true] at hB'
  have hrd : i ∈ Region.ready .any ops listed := by simpa using hB'.2.2
  intro hD
  have h1 := h (hD.step hrd)
  exact ⟨h1.1, take_walkZ (zs := zs) (C := C) (C' := C) hi hB (by simpa using hZ.2) h1.1
    (fun L w hDL hun hc => hc (noZ_of_reach hDL hun hZ.1)) hD hd hv hdf w (fun _ => h1.1) h1.2⟩
def SoloY (P : Program) (ops : Array Oper) (zs : List Nat) (C : World → Prop) (Q : Act → World → Prop) (fuel : Nat) (listed : Array Bool) (df : List Deferred) (a' : Act) (w' : World) : Prop :=
  a'.defers = df ∧ AnyCZ P ops zs C Q fuel listed a' w'
theorem AnyCZ.solo {i : Nat} {oi : Oper} {fuel : Nat} {listed : Array Bool} {a : Act} {w : World} (hi : ops[i]? = some oi) (hr : (Region.ready .any ops listed == [i]) = true) (hb : C w)
    (h : wpList P ops (OnK (SoloY P ops zs C Q fuel (listed.setIfInBounds i true) a.defers)) [oi] a w) : AnyCZ P ops zs C Q (fuel + 1) listed a w := by
  intro hD
  have hr' : Region.ready .any ops listed = [i] := by simpa using hr
  have hir : i ∈ Region.ready .any ops listed := by rw [hr']; simp
  refine ⟨hb, fun h0 => (by rw [hr'] at h0; cases h0), fun j hj => ?_⟩
  rw [hr'] at hj
  obtain rfl : j = i := by simpa using hj
  have h1 := okOp_of_wp (fun a' w' hk => hk.1) h
  unfold okStep
  simp only [hi]
  split
  · rename_i hw1
    rw [if_pos hw1] at h1
    exact okOp_mono (fun v w' ⟨_, h3⟩ => ⟨fun _ => (h3 (hD.step hir)).1, (h3 (hD.step hir)).2⟩) h1
  · rename_i hw1
    rw [if_neg hw1] at h1
    exact ⟨fun _ => (h1.2 (hD.step hir)).1, (h1.2 (hD.step hir)).2⟩
theorem AnyCZ.soloW {i : Nat} {oi : Oper} {fuel : Nat} {listed : Array Bool} {a : Act} {w : World} (hi : ops[i]? = some oi) (hr : (Region.ready .any ops listed == [i] && zs.contains i) = true) (hb : C w)
    (h : wpList P ops (OnK (SoloW P ops zs Q fuel (listed.setIfInBounds i true) a.defers)) [oi] a w) : AnyCZ P ops zs C Q (fuel + 1) listed a w := by
  intro hD
  rw [Bool.and_eq_true] at hr
  have hr' : Region.ready .any ops listed = [i] := by simpa using hr.1
  have hir : i ∈ Region.ready .any ops listed := by rw [hr']; simp
  have hnz := no_noZ (zs := zs) (by simpa using hr.2) hir
  refine ⟨hb, fun h0 => (by rw [hr'] at h0; cases h0), fun j hj => ?_⟩
  rw [hr'] at hj
  obtain rfl : j = i := by simpa using hj
  have h1 := okOp_of_wp (fun a' w' hk => hk.1) h
  unfold okStep
  simp only [hi]
  split
  · rename_i hw1
    rw [if_pos hw1] at h1
    exact okOp_mono (fun v w' ⟨_, h3⟩ => ⟨fun hn => absurd hn hnz, h3.again (hD.step hir) hnz⟩) h1
  · rename_i hw1
    rw [if_neg hw1] at h1
    exact ⟨fun hn => absurd hn hnz, h1.2.again (hD.step hir) hnz⟩
end
end Go.Proofs.YtbcpmnnlhdgbhaaGreatDoor

namespace Go.Proofs.YtbcpmnnlhdgbhaaGreatDoor
open Go.RowKit
section
variable {P : Program}
theorem AnyC.startB {id n : Nat} {Q' : Exit → Act → World → Prop} {a : Act} {w : World} {l : List Oper} (C : World → Prop) (hm : P.follows .mixedOrders = true) (hn : l.length = n)
    (h : ∀ w', Below w.heap.size w w' → w'.heap.size = w.heap.size → AnyC P l.toArray C (fun a w => Q' .normal a w) n (Array.replicate n false) a w') : (Code.region id l.toArray true).wp P Q' a w :=
  AnyC.start C hm hn (h { w with drawn := w.drawn + 1 } ⟨rfl, rfl, rfl, Nat.le_refl _, fun _ _ => rfl⟩ rfl)
end
theorem lt_of_heap {w : World} {b : Nat} {o : Obj} (h : w.heap[b]? = some o) : b < w.heap.size := by
  rcases Nat.lt_or_ge b w.heap.size with h' | h'
  · exact h'
  · rw [Array.getElem?_eq_none h'] at h; cases h
theorem heap_below {w w' : World} {b : Nat} {o : Obj} (h : w.heap[b]? = some o) (hb : Below w.heap.size w w') : w'.heap[b]? = some o := (hb.block _ (lt_of_heap h)).trans h
theorem there_alloc {w : World} {b o n : Nat} (h : w.there b o n) (hb : b < w.heap.size) (x : Obj) : (w.alloc x).there b o n := fun j hj => by
  have h1 := Below.heap_alloc w x b hb
  rw [World.cell?_of_block (a := ⟨b, o + j, none⟩) h1, World.frozen?_of_block (a := ⟨b, o + j, none⟩) h1]
  exact h j hj
theorem there_row {w : World} {b n : Nat} {cs : Array Value} {t : TypeId} (h : w.heap[b]? = some (.cells cs t (0, 0))) (hn : n ≤ cs.size) : w.there b 0 n := fun j hj => by
  refine ⟨?_, ?_⟩
  · rw [Nat.zero_add, cell_of_row w b j _ _ _ h, Array.getElem?_eq_getElem (by omega)]; rfl
  · simp only [World.frozen?, h]; rfl
theorem frozen_row {w : World} {b : Nat} {cs : Array Value} {t : TypeId} (h : w.heap[b]? = some (.cells cs t (0, 0))) (i : Nat) : w.frozen? ⟨b, i, none⟩ = false := by
  simp only [World.frozen?, h]; rfl
theorem there_new (w : World) (cs : Array Value) (t : TypeId) (n : Nat) (h : n ≤ cs.size) : (w.alloc (.cells cs t)).there w.heap.size 0 n := there_row (heap_alloc_new w _) h
theorem there_below {w w' : World} {b o n : Nat} (h : w.there b o n) (hb : b < w.heap.size) (hB : Below w.heap.size w w') : w'.there b o n := fun j hj => by
  have h1 := hB.block b hb
  rw [World.cell?_of_block (a := ⟨b, o + j, none⟩) h1, World.frozen?_of_block (a := ⟨b, o + j, none⟩) h1]
  exact h j hj
theorem range_row {w : World} {b : Nat} {cs : Array Value} {t : TypeId} {f : Nat × Nat} (h : w.heap[b]? = some (.cells cs t f)) : w.rangeAt b 0 cs.toList := fun j v hv => by
  rw [Nat.zero_add, cell_of_row w b j cs t f h]
  simpa using hv
theorem below_setCells {B b : Nat} {a : World} : ∀ (vs : List Value) (o : Nat) (w : World), Below B a w → B ≤ b → Below B a (w.setCells b o vs)
  | [], _, _, h, _ => h
  | v :: vs, o, _, h, hb => below_setCells vs (o + 1) _ (h.setCell (p := ⟨b, o, none⟩) hb v) hb
theorem heap_setCells_ne {b k : Nat} (hk : k ≠ b) : ∀ (vs : List Value) (o : Nat) (w : World), (w.setCells b o vs).heap[k]? = w.heap[k]?
  | [], _, _ => rfl
  | v :: vs, o, w => (heap_setCells_ne hk vs (o + 1) (w.setCell ⟨b, o, none⟩ v)).trans (Below.heap_setCell w ⟨b, o, none⟩ v k hk)
theorem wpList_load_arr {P : Program} {ops : Array Oper} {rest : List Oper} {op : Oper} {a : Act} {w : World} {Q : Exit → Act → World → Prop} (hgd : op.guard = none) (ty : TypeId) (x : Operand) (ho : op.op = .load ty x)
    (b o : Nat) (hx : a.eval x = .pointer (some ⟨b, o, none⟩)) (cs : Array Value) (d : TypeDesc) (hc : w.rangeAt b o cs.toList)
    (hu : P.underlying ty = some d) (hd : d.isRow = true) (hi : (P.info? ty).map (·.size) = some cs.size)
    (h : wpList P ops Q rest (a.put op.dst (.agg cs)) w) : wpList P ops Q (op :: rest) a w :=
  wpList_load_mid hgd ty x ho b o hx cs.toList d hc hu hd (by rw [Array.length_toList]; exact hi) (by rw [Array.toArray_toList]; exact h)
end Go.Proofs.YtbcpmnnlhdgbhaaGreatDoor

namespace Go.Proofs.YtbcpmnnlhdgbhaaGreatDoor
open Go.RowKit
def sig1 (x : Int) : Int := bits .xor .u32 (bits .xor .u32 (rotI x 15) (rotI x 13)) (x / 1024)
def sig0 (x : Int) : Int := bits .xor .u32 (bits .xor .u32 (rotI x 25) (rotI x 14)) (x / 8)
/-- The words of a block: 16 of its bytes, then each of those ahead. -/
def schedL (l : List UInt8) : Nat → List Int
  | 0 => []
  | t + 1 => schedL l t ++ [if t < 16 then IntKind.u32.wrap (wordI ((l.drop (4 * t)).take 4)) else
      (sig1 ((schedL l t).getD (t - 2) 0) + (schedL l t).getD (t - 7) 0 + sig0 ((schedL l t).getD (t - 15) 0) + (schedL l t).getD (t - 16) 0) % 4294967296]
theorem schedL_len (l : List UInt8) : ∀ t, (schedL l t).length = t
  | 0 => rfl
  | t + 1 => by rw [schedL, List.length_append, schedL_len l t]; rfl
/-- A row of 32-bit words. -/
def WB (w : World) (g : Nat) (t : TypeId) (m : Nat) (L : List Int) : Prop := ∃ cur, w.heap[g]? = some (.cells cur t (0, 0)) ∧ cur.size = m ∧ ∀ (j : Nat), j < L.length → cur[j]? = some (.int .u32 (L.getD j 0))
theorem WB.cell {w : World} {g m : Nat} {t : TypeId} {L : List Int} (h : WB w g t m L) (j : Nat) (hj : j < L.length) : w.cell? ⟨g, j, none⟩ = some (.int .u32 (L.getD j 0)) := by
  obtain ⟨cur, h1, _, h3⟩ := h
  rw [cell_of_row w g j _ _ _ h1]; exact h3 j hj
theorem WB.any {w : World} {g m : Nat} {t : TypeId} {L : List Int} (h : WB w g t m L) (j : Nat) (hj : j < m) : ∃ v, w.cell? ⟨g, j, none⟩ = some v := by
  obtain ⟨cur, h1, h2, _⟩ := h
  rw [cell_of_row w g j _ _ _ h1]
  exact ⟨cur[j], by simp [h2, hj]⟩
theorem WB.unfrozen {w : World} {g m : Nat} {t : TypeId} {L : List Int} (h : WB w g t m L) (i : Nat) : w.frozen? ⟨g, i, none⟩ = false := by
  obtain ⟨cur, h1, _⟩ := h
  simp [World.frozen?, h1]
theorem WB.put {w : World} {g m : Nat} {t : TypeId} {L : List Int} (h : WB w g t m L) (k : Nat) (hk : k = L.length) (hm : k < m) (x : Int) : WB (w.setCell ⟨g, k, none⟩ (.int .u32 x)) g t m (L ++ [x]) := by
  subst hk
  obtain ⟨cur, h1, h2, h3⟩ := h
  refine ⟨cur.setIfInBounds L.length (.int .u32 x), heap_setCell_same w g L.length cur t (.int .u32 x) h1, by simpa using h2, fun j hj => ?_⟩
  rw [List.length_append] at hj
  simp at hj
  rw [Array.getElem?_setIfInBounds]
  by_cases e : L.length = j
  · subst e
    rw [if_pos rfl, if_pos (by omega)]
    simp
  · rw [if_neg e, h3 j (by omega)]
    simp [List.getD, List.getElem?_append_left (show j < L.length by omega)]
theorem WB.grown {w w' : World} {g m : Nat} {t : TypeId} {L : List Int} {row : Option Nat} (h : WB w g t m L) (hg : w.grownBy w' row) (hne : some g ≠ row) : WB w' g t m L := by
  obtain ⟨cur, h1, h2⟩ := h
  exact ⟨cur, (hg.block g (lt_heap h1) hne).trans h1, h2⟩
theorem WB.bel {w w' : World} {g m : Nat} {t : TypeId} {L : List Int} (h : WB w g t m L) (hb : Below w.heap.size w w') : WB w' g t m L := by
  obtain ⟨cur, h1, h2⟩ := h
  exact ⟨cur, (hb.block g (lt_heap h1)).trans h1, h2⟩
structure R8 where
  a : Int
  c : Int
  d : Int
  e : Int
  f : Int
  g : Int
  i : Int
  j : Int
def big1 (x : Int) : Int := bits .xor .u32 (bits .xor .u32 (rotI x 26) (rotI x 21)) (rotI x 7)
def big0 (x : Int) : Int := bits .xor .u32 (bits .xor .u32 (rotI x 30) (rotI x 19)) (rotI x 10)
def t1F (j s1 f g i k w : Int) : Int := ((j + s1 + bits .xor .u32 (bits .and .u32 f g) (bits .and .u32 (bits .xor .u32 (if IntKind.u32.signed = true then -1 else IntKind.u32.max) f) i) + k) % 4294967296 + w) % 4294967296
def R8.l (R : R8) : List Int := [R.a, R.c, R.d, R.e, R.f, R.g, R.i, R.j]
def rnd (X : R8) (k w : Int) : R8 :=
  ⟨(t1F X.j (big1 X.f) X.f X.g X.i k w + (big0 X.a + bits .xor .u32 (bits .xor .u32 (bits .and .u32 X.a X.c) (bits .and .u32 X.a X.d)) (bits .and .u32 X.c X.d)) % 4294967296) % 4294967296, X.a, X.c, X.d, (X.e + t1F X.j (big1 X.f) X.f X.g X.i k w) % 4294967296, X.f, X.g, X.i⟩
def rnds (K W : List Int) (R : R8) : Nat → R8
  | 0 => R
  | n + 1 => rnd (rnds K W R n) (K.getD n 0) (W.getD n 0)
def addR (R X : R8) : R8 := ⟨(R.a + X.a) % 4294967296, (R.c + X.c) % 4294967296, (R.d + X.d) % 4294967296, (R.e + X.e) % 4294967296, (R.f + X.f) % 4294967296, (R.g + X.g) % 4294967296, (R.i + X.i) % 4294967296, (R.j + X.j) % 4294967296⟩
/-- What a block makes of a state. -/
def blockF (K : List Int) (R : R8) (l : List UInt8) : R8 := addR R (rnds K (schedL l 64) R 64)
def w32s (l : List Int) : List Value := l.map (Value.int .u32)
/-- A row whose first cells are written over. -/
def over (cur : Array Value) (vs : List Value) : Array Value := (vs ++ cur.toList.drop vs.length).toArray
theorem over_nil (cur : Array Value) : over cur [] = cur := by simp [over]
theorem over_size (cur : Array Value) (vs : List Value) (h : vs.length ≤ cur.size) : (over cur vs).size = cur.size := by
  simp [over]; omega
theorem over_get (cur : Array Value) (vs : List Value) (j : Nat) (h : vs.length ≤ j) : (over cur vs)[j]? = cur[j]? := by
  simp only [over, List.getElem?_toArray]
  rw [List.getElem?_append_right h, List.getElem?_drop, Nat.add_sub_cancel' h, Array.getElem?_toList]
theorem over_set (cur : Array Value) (vs : List Value) (v : Value) (h : vs.length < cur.size) : (over cur vs).setIfInBounds vs.length v = over cur (vs ++ [v]) := by
  apply Array.ext_getElem?
  intro i
  rw [Array.getElem?_setIfInBounds, over_size _ _ (by omega)]
  by_cases e : vs.length = i
  · subst e
    rw [if_pos rfl, if_pos h]
    simp only [over, List.getElem?_toArray]
    rw [List.getElem?_append_left (by simp), List.getElem?_append_right (Nat.le_refl _)]
    simp
  · rw [if_neg e]
    rcases Nat.lt_or_ge i vs.length with h' | h'
    · simp only [over, List.getElem?_toArray]
      rw [List.getElem?_append_left h', List.getElem?_append_left (by simp; omega), List.getElem?_append_left h']
    · rw [over_get _ _ _ h', over_get _ _ _ (by simp; omega)]
end Go.Proofs.YtbcpmnnlhdgbhaaGreatDoor

namespace Go.Proofs.YtbcpmnnlhdgbhaaGreatDoor
open Go
theorem still_of_quiet {P : Program} {o : Oper} {a : Act} {w : World} {K K' : Act → Prop} (hk : ∀ a, K a → K' a) (h : o.quiet P a (fun w' => w' = w) K) : o.still P a w K' := by
  obtain ⟨v, h1, h2⟩ := h
  have h3 := h1 w rfl
  unfold Oper.quietAt at h3
  unfold Oper.still
  generalize (execOp a.eval o).run P w = r at *
  cases r with
  | ok n w' =>
    cases n <;> simp only [Oper.quietUpon] at h3 <;> simp only [Oper.stillUpon]
    case value u =>
      obtain ⟨e1, e2⟩ := h3
      rw [e2]
      exact ⟨e1, hk _ h2⟩
    case skip =>
      obtain ⟨e1, e2⟩ := h3
      rw [← e2]
      exact ⟨e1, hk _ h2⟩
    case enter f args =>
      obtain ⟨e1, hc⟩ := h3
      exact ⟨e1, v, hc, hk _ h2⟩
  | halt x w' => simp only [Oper.quietUpon] at h3
theorem wpStill_of_quiet {P : Program} {ops : Array Oper} {w : World} {Q : Act → Prop} : ∀ (l : List Oper) (a : Act), wpQuiet P ops (fun w' => w' = w) Q l a → wpStill P ops w Q l a
  | [], _, h => h
  | o :: l, a, h => by
    unfold wpQuiet at h
    unfold wpStill
    split
    · rename_i hw
      rw [if_pos hw] at h
      exact still_of_quiet (fun a' h' => wpStill_of_quiet l a' h') h
    · rename_i hw
      rw [if_neg hw] at h
      exact wpStill_of_quiet l _ h
theorem wp_quiet_tail {P : Program} {id : Nat} {Q : Exit → Act → World → Prop} {a : Act} {w : World} {l : List Oper} (n : Nat) (hm : P.follows .mixedOrders = true) (hB : Region.lexTailB .any l.toArray n = true)
    (h : wpQuiet P l.toArray (fun w' => w' = w.drew) (fun a' => wpList P l.toArray Q (l.drop n) a' w.drew) (l.take n) a) : (Code.region id l.toArray true).wp P Q a w :=
  wp_region_still_tail n hm hB (wpStill_of_quiet _ _ h)
/-- A whole array loaded, in such a head. -/
theorem quiet_load_arr {P : Program} {o : Oper} {a : Act} {w0 : World} {K : Act → Prop} (ty : TypeId) (x : Operand) (ho : o.op = .load ty x) (b off : Nat) (hx : a.eval x = .pointer (some ⟨b, off, none⟩)) (cs : Array Value) (d : TypeDesc) (hc : w0.rangeAt b off cs.toList)
    (hu : P.underlying ty = some d) (hd : d.isRow = true) (hi : (P.info? ty).map (·.size) = some cs.size) (hk : K (a.put o.dst (.agg cs))) : o.quiet P a (fun w => w = w0) K := by
  refine ⟨.agg cs, fun w hw => ?_, hk⟩
  subst hw
  unfold Oper.quietAt execOp
  simp only [ho, hx, Instr.loadAt, Instr.sureAddr, Sem.run_bind, Sem.run_pure, Result.andThen_ok, run_loadVar_mid w b off ty cs.toList d hc hu hd (by rw [Array.length_toList]; exact hi), Array.toArray_toList]
  exact ⟨rfl, rfl⟩
end Go.Proofs.YtbcpmnnlhdgbhaaGreatDoor

namespace Go.Proofs.YtbcpmnnlhdgbhaaGreatDoor
open Go.RowKit
/-- Only the blocks of ps have been written through; others were made. -/
structure Frm (ps : List Nat) (w w' : World) : Prop where
  os : w'.os = w.os
  tape : w'.tape = w.tape
  output : w'.output = w.output
  size : w.heap.size ≤ w'.heap.size
  block : ∀ k, k < w.heap.size → k ∉ ps → w'.heap[k]? = w.heap[k]?
theorem Frm.refl (ps : List Nat) (w : World) : Frm ps w w := ⟨rfl, rfl, rfl, Nat.le_refl _, fun _ _ _ => rfl⟩
theorem Frm.trans {ps : List Nat} {a b c : World} (h : Frm ps a b) (k : Frm ps b c) : Frm ps a c :=
  ⟨k.os.trans h.os, k.tape.trans h.tape, k.output.trans h.output, Nat.le_trans h.size k.size, fun i hi hn => (k.block i (Nat.lt_of_lt_of_le hi h.size) hn).trans (h.block i hi hn)⟩
theorem Frm.more {ps qs : List Nat} {w w' : World} (h : Frm ps w w') (hs : ∀ p ∈ ps, p ∈ qs) : Frm qs w w' := ⟨h.os, h.tape, h.output, h.size, fun k hk hn => h.block k hk fun hp => hn (hs k hp)⟩
theorem Frm.of_below {ps : List Nat} {w w' : World} (h : Below w.heap.size w w') : Frm ps w w' := ⟨h.os, h.tape, h.output, h.size, fun k hk _ => h.block k hk⟩
theorem Frm.below {ps : List Nat} {w w' : World} {B : Nat} (h : Frm ps w w') (hB : B ≤ w.heap.size) (hp : ∀ p ∈ ps, B ≤ p) : Below B w w' :=
  ⟨h.os, h.tape, h.output, h.size, fun k hk => h.block k (by omega) fun hk' => absurd (hp k hk') (by omega)⟩
theorem Frm.heap {ps : List Nat} {w w' : World} {b : Nat} {o : Obj} (h : Frm ps w w') (hb : w.heap[b]? = some o) (hn : b ∉ ps) : w'.heap[b]? = some o := (h.block b (lt_of_heap hb) hn).trans hb
theorem Frm.setCell (w : World) (b i : Nat) (v : Value) : Frm [b] w (w.setCell ⟨b, i, none⟩ v) := by
  have hs : (w.setCell ⟨b, i, none⟩ v).heap.size = w.heap.size := by unfold World.setCell; simp
  exact ⟨rfl, rfl, rfl, Nat.le_of_eq hs.symm, fun k _ hn => Below.heap_setCell w ⟨b, i, none⟩ v k (by simpa using hn)⟩
theorem heap_setRow {w : World} {b : Nat} {C cs : Array Value} {t : TypeId} {f : Nat × Nat} (h : w.heap[b]? = some (.cells C t f)) : (w.setRow b cs).heap[b]? = some (.cells cs t f) := by
  unfold World.setRow
  simp only [Array.getElem?_modify, if_pos, h, Option.map_some]
theorem Frm.setRow (w : World) (b : Nat) (cs : Array Value) : Frm [b] w (w.setRow b cs) ∧ (w.setRow b cs).heap.size = w.heap.size := by
  have hs : (w.setRow b cs).heap.size = w.heap.size := by unfold World.setRow; simp
  refine ⟨⟨rfl, rfl, rfl, Nat.le_of_eq hs.symm, fun k _ hn => ?_⟩, hs⟩
  unfold World.setRow
  simp only [Array.getElem?_modify]
  rw [if_neg (fun e => hn (by simp [e]))]
/-- copy of bytes into a row: what is there behind it. -/
theorem copy_row {w : World} {b off n c m c2 : Nat} {C : Array Value} {t : TypeId} {A : Option Addr} {x : List UInt8} {B : Nat} (h : w.heap[b]? = some (.cells C t (0, 0))) (hr : Reads w B 1 A m (bvs x)) (hx : x.length = m) (hfit : off + n ≤ C.size) :
    ∃ w1 : World, (∀ ty, (Builtin.copy_ #[96, 96] ty #[.slice (some ⟨b, off, none⟩) n c, .slice A m c2]).run Tryz.prog w = .ok (goInt (Nat.min m n)) w1) ∧
      w1.heap[b]? = some (.cells (C.toList.take off ++ bvs (x.take n) ++ C.toList.drop (off + Nat.min m n)).toArray t (0, 0)) ∧ Frm [b] w w1 ∧ w1.heap.size = w.heap.size := by
  by_cases h0 : Nat.min m n = 0
  · refine ⟨w, fun ty => ?_, ?_, Frm.refl _ _, rfl⟩
    · rw [h0]
      exact run_copy_none (P := Tryz.prog) w _ _ ty _ _ _ n c m c2 Tryz.underlying96 (by kernel_rfl) h0
    · have h1 : x.take n = [] := by
        apply List.eq_nil_of_length_eq_zero
        rw [List.length_take, hx, Nat.min_comm]
        exact h0
      rw [h1, h0, Nat.add_zero, show bvs ([] : List UInt8) = [] from rfl, List.append_nil, List.take_append_drop]
      exact h
  · have hm : 0 < m := by
      rcases Nat.eq_zero_or_pos m with e | e
      · subst e; exact absurd (Nat.zero_min n) h0
      · exact e
    obtain ⟨b2, off2, rfl, hb2, hc⟩ := hr.bytes hm
    have hlen : (bvs (x.take n)).length = Nat.min m n := by simp [bvs_length, hx, Nat.min_comm]
    refine ⟨w.setRow b (C.toList.take off ++ bvs (x.take n) ++ C.toList.drop (off + (bvs (x.take n)).length)).toArray, fun ty => ?_, ?_, (Frm.setRow w b _).1, (Frm.setRow w b _).2⟩
    · rw [show (goInt (Nat.min m n)) = goInt (bvs (x.take n)).length from by rw [hlen]]
      refine run_copy_row (P := Tryz.prog) w _ _ ty _ b off n c _ m c2 C t (bvs (x.take n)) Tryz.underlying96 (by kernel_rfl) h hlen ?_ ?_ ?_
      · intro j v hv
        rw [add_none]
        have hj : j < Nat.min m n := by
          rcases Nat.lt_or_ge j (Nat.min m n) with h' | h'
          · exact h'
          · rw [List.getElem?_eq_none (by rw [hlen]; exact h')] at hv; cases hv
        have hjm : j < m := Nat.lt_of_lt_of_le hj (Nat.min_le_left _ _)
        have hjn : j < n := Nat.lt_of_lt_of_le hj (Nat.min_le_right _ _)
        rw [hc j hjm]
        simp only [bvs, List.getElem?_map, List.getElem?_take, if_pos hjn] at hv
        rw [List.getElem?_eq_getElem (by omega)] at hv
        rw [List.getD_eq_getElem?_getD, List.getElem?_eq_getElem (by omega)]
        simpa [bv] using hv
      · have h_ : Nat.min m n ≤ n := Nat.min_le_right m n
        rw [hlen]
        omega
      · exact fun v hv => bvs_one _ v hv
    · rw [hlen]
      exact heap_setRow h
end Go.Proofs.YtbcpmnnlhdgbhaaGreatDoor
