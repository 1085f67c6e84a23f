/- The texts J8 J9 J10 of this work, merged by wip/merge.py. No conditions. -/
import Derived.Test.YtkbopeoaoakfnaaDoorQJF
import Derived.Test.YtkbopeoaoakfnaaDoorQG
import Derived.Test.YtkbopeoaoakfnaaDoorQR
import Derived.Maps.OwnSet
namespace Go.Proofs.YtkbopeoaoakfnaaDoor
open Go.RowKit
/-- What A points to reads xs; its block is one of F's. -/
def Rd (w : World) (F : Nat → Prop) (A : Option Addr) (xs : List Value) : Prop := xs ≠ [] → ∃ b off, A = some ⟨b, off, none⟩ ∧ F b ∧ ∀ j u, xs[j]? = some u → w.cell? ⟨b, off + j, none⟩ = some u
/-- The cells of an object's members. -/
def mems (ks : List (List UInt8)) (us : List Value) : List Value := (List.zipWith (fun k u => [Value.string ⟨k.toArray⟩, u]) ks us).flatten
/-- v is the value j; all that it is made of lies in F's blocks. -/
inductive IsV (w : World) (F : Nat → Prop) : Value → JV → Prop where
  | nil : IsV w F .nilIface .nil
  | null : IsV w F (.iface 70 (.agg #[])) .null
  | bool (b : Bool) : IsV w F (.iface 71 (.bool b)) (.bool b)
  | num (s : List UInt8) : IsV w F (.iface 61 (.string ⟨s.toArray⟩)) (.num s)
  | text (s : List UInt8) : IsV w F (.iface 41 (.string ⟨s.toArray⟩)) (.text s)
  | list (A : Option Addr) (c : Nat) (us : List Value) (l : List JV) (hu : us.length = l.length) (hr : Rd w F A us) (he : ∀ (i : Nat) (u : Value) (j : JV), us[i]? = some u → l[i]? = some j → IsV w F u j) : IsV w F (.iface 49 (.slice A l.length c)) (.list l)
  | obj (A : Option Addr) (c : Nat) (us : List Value) (ks : List (List UInt8)) (l : List JV) (hu : us.length = l.length) (hk : ks.length = l.length) (hr : Rd w F A (mems ks us)) (he : ∀ (i : Nat) (u : Value) (j : JV), us[i]? = some u → l[i]? = some j → IsV w F u j) : IsV w F (.iface 73 (.slice A l.length c)) (.obj ks l)
section
variable {w w' : World} {F F' : Nat → Prop} {v u : Value} {j : JV} {g lo : Nat}
theorem Rd.keep {A : Option Addr} {xs : List Value} (h : Rd w F A xs) (hk : ∀ k, F k → w'.heap[k]? = w.heap[k]?) (hF : ∀ k, F k → F' k) : Rd w' F' A xs := fun h0 => by
  obtain ⟨b, off, h1, h2, h3⟩ := h h0
  exact ⟨b, off, h1, hF b h2, fun j u hu => by rw [World.cell?_of_block (a := ⟨b, off + j, none⟩) (hk b h2)]; exact h3 j u hu⟩
theorem IsV.keep (h : IsV w F v j) (hk : ∀ k, F k → w'.heap[k]? = w.heap[k]?) (hF : ∀ k, F k → F' k) : IsV w' F' v j := by
  induction h with
  | nil => exact .nil
  | null => exact .null
  | bool b => exact .bool b
  | num s => exact .num s
  | text s => exact .text s
  | list A c us l hu hr _ ih => exact .list A c us l hu (hr.keep hk hF) ih
  | obj A c us ks l hu hkk hr _ ih => exact .obj A c us ks l hu hkk (hr.keep hk hF) ih
theorem IsV.one (h : IsV w F v j) : v.cells = #[v] ∧ v.oneCell' = true := by cases h <;> exact ⟨rfl, rfl⟩
/-- A row of values (a cell or two each) that the call owns, while it grows. -/
structure LV (w : World) (lo : Nat) (t : TypeId) (sz : Nat) (v : Value) (xs us : List Value) (l : List JV) : Prop where
  own : w.ownsRow lo t sz v l.length xs
  len : us.length = l.length
  each : ∀ (i : Nat) (u : Value) (j : JV), us[i]? = some u → l[i]? = some j → IsV w (fun k => lo ≤ k ∧ k < w.heap.size ∧ v.ownBlock ≠ some k) u j
variable {t : TypeId} {sz : Nat} {xs us : List Value} {l : List JV}
theorem LV.nil (w : World) (lo : Nat) (t : TypeId) (sz : Nat) : LV w lo t sz (.slice none 0 0) [] [] [] := ⟨World.ownsRow_nil w lo t sz, rfl, fun i u j h => by simp at h⟩
theorem LV.keep (h : LV w lo t sz v xs us l) (hs : w.heap.size ≤ w'.heap.size) (hk : ∀ k, lo ≤ k → k < w.heap.size → w'.heap[k]? = w.heap[k]?) : LV w' lo t sz v xs us l := by
  refine ⟨?_, h.len, fun i u j hu hj => (h.each i u j hu hj).keep (fun k hF => hk k hF.1 hF.2.1) (fun k hF => ⟨hF.1, by omega, hF.2.2⟩)⟩
  obtain ⟨hl, h1 | ⟨b, cap, cur, e1, e2, e3, e4⟩⟩ := h.own
  · exact ⟨hl, .inl h1⟩
  · exact ⟨hl, .inr ⟨b, cap, cur, e1, e2, (hk b e2 (lt_of_heap e3)).trans e3, e4⟩⟩
theorem LV.turn (h : LV w lo t sz v xs us l) (ht : Turn g w w') (hg : g < lo) : LV w' lo t sz v xs us l := h.keep ht.size (fun k h1 h2 => ht.block k h2 (by omega))
theorem LV.below (h : LV w lo t sz v xs us l) (hb : Below w.heap.size w w') : LV w' lo t sz v xs us l := h.keep hb.size (fun k _ h2 => hb.block k h2)
theorem LV.setCell {p : Addr} (h : LV w lo t sz v xs us l) (hp : p.block < lo) (x : Value) : LV (w.setCell p x) lo t sz v xs us l := h.keep (by simp [World.setCell]) (fun k h1 _ => Below.heap_setCell _ _ _ _ (by omega))
/-- One more behind: its own blocks were made since m, where the row lay below m. -/
theorem LV.more {m n : Nat} {v' : Value} {ys : List Value} {w2 : World} (h : LV w lo t sz v xs us l) (hv : ∀ k, v.ownBlock = some k → k < m) (hu : IsV w (fun k => m ≤ k ∧ k < w.heap.size) u j) (hb : Below w.heap.size w w2) (hn : n = l.length + 1)
    (ho : w'.ownsRow lo t sz v' n (xs ++ ys)) (hg : w2.grownBy w' v.ownBlock) (hb' : v'.ownBlock = v.ownBlock ∨ v'.ownBlock = some w2.heap.size) (hlo : lo ≤ m) : LV w' lo t sz v' (xs ++ ys) (us ++ [u]) (l ++ [j]) := by
  have hs1 := hb.size
  have hs2 := hg.size
  have hold : ∀ k, k < w.heap.size → v.ownBlock ≠ some k → w'.heap[k]? = w.heap[k]? := fun k h1 h2 => (hg.block k (by omega) (fun e => h2 e.symm)).trans (hb.block k h1)
  have hnew : ∀ k, k < w.heap.size → v.ownBlock ≠ some k → v'.ownBlock ≠ some k := fun k h1 h2 h3 => by
    rcases hb' with e | e
    · exact h2 (e ▸ h3)
    · rw [e] at h3
      injection h3 with h3
      omega
  refine ⟨by rw [List.length_append]; rw [hn] at ho; exact ho, by simp [h.len], fun i x y hx hy => ?_⟩
  rcases Nat.lt_or_ge i l.length with hi | hi
  · rw [List.getElem?_append_left (by rw [h.len]; exact hi)] at hx
    rw [List.getElem?_append_left hi] at hy
    exact (h.each i x y hx hy).keep (fun k hF => hold k hF.2.1 hF.2.2) (fun k hF => ⟨hF.1, by omega, hnew k hF.2.1 hF.2.2⟩)
  · have hi2 : i = l.length := by
      have := (List.getElem?_eq_some_iff.1 hy).1
      simp at this
      omega
    subst hi2
    rw [← h.len] at hx
    simp at hx hy
    subst hx hy
    have hne : ∀ k, m ≤ k → v.ownBlock ≠ some k := fun k h1 h2 => by have := hv k h2; omega
    exact hu.keep (fun k hF => hold k hF.2 (hne k hF.1)) (fun k hF => ⟨by omega, by omega, hnew k hF.2 (hne k hF.1)⟩)
theorem LV.blk (h : LV w lo t sz v xs us l) : ∀ k, v.ownBlock = some k → k < w.heap.size := fun k hk => (World.ownsRow.lt h.own k hk).2
theorem LV.rd (h : LV w lo t sz v xs us l) : ∃ A c, v = .slice A l.length c ∧ l.length ≤ c ∧ Rd w (fun k => lo ≤ k ∧ k < w.heap.size) A xs := by
  have hr := h.own
  obtain ⟨hl, h0 | ⟨b, cap, cur, rfl, hb, hh, hle, _⟩⟩ := h.own
  · obtain ⟨rfl, hn⟩ := h0
    have hx : xs = [] := List.eq_nil_of_length_eq_zero (by rw [hl, hn]; omega)
    subst hx
    exact ⟨none, 0, by rw [hn], by omega, fun h0 => absurd rfl h0⟩
  · refine ⟨_, cap, rfl, hle, fun h0 => ⟨b, 0, rfl, ⟨hb, lt_of_heap hh⟩, fun j u hu => ?_⟩⟩
    obtain ⟨A, c, hv, _, hrd⟩ := ownR_form hr
    cases hv
    obtain ⟨ad, e, _, hc⟩ := hrd.2 (by
      rcases Nat.eq_zero_or_pos l.length with h1 | h1
      · exact absurd (List.eq_nil_of_length_eq_zero (by rw [hl, h1]; omega)) h0
      · exact h1)
    cases e
    have := hc j u hu
    rwa [add_none] at this
theorem LV.list (h : LV w lo 30 1 v us us l) : IsV w (fun k => lo ≤ k ∧ k < w.heap.size) (.iface 49 v) (.list l) := by
  obtain ⟨A, c, rfl, _, hr⟩ := h.rd
  exact .list A c us l h.len hr (fun i u j hu hj => (h.each i u j hu hj).keep (fun k _ => rfl) (fun k hF => ⟨hF.1, hF.2.1⟩))
theorem LV.obj {ks : List (List UInt8)} (h : LV w lo 75 2 v (mems ks us) us l) (hk : ks.length = l.length) : IsV w (fun k => lo ≤ k ∧ k < w.heap.size) (.iface 73 v) (.obj ks l) := by
  obtain ⟨A, c, rfl, _, hr⟩ := h.rd
  exact .obj A c us ks l h.len hk hr (fun i u j hu hj => (h.each i u j hu hj).keep (fun k _ => rfl) (fun k hF => ⟨hF.1, hF.2.1⟩))
theorem mems_more {ks : List (List UInt8)} {us : List Value} (h : ks.length = us.length) (k : List UInt8) (u : Value) : mems (ks ++ [k]) (us ++ [u]) = mems ks us ++ [.string ⟨k.toArray⟩, u] := by
  unfold mems
  rw [List.zipWith_append h]
  simp
end
end Go.Proofs.YtkbopeoaoakfnaaDoor

namespace Go.Proofs.YtkbopeoaoakfnaaDoor
open Go.RowKit
/-- What value does, for texts whose rest is shorter than n. -/
def VAL (s : List UInt8) (n : Nat) : Prop := ∀ (base g : Nat) (w : World) (st : PS), At w base g s w st → (st.fault = none → s.length - st.at_ < n ∧ 0 ≤ st.depth ∧ st.depth ≤ 16) → 0 < n →
  Calls Tryd.prog 32 #[.pointer (some ⟨g, 0, none⟩)] w fun e w' => ∃ v, e = .returned v ∧ At w base g s w' (valP s n st).2 ∧ IsV w' (fun k => w.heap.size ≤ k ∧ k < w'.heap.size) v (valP s n st).1
section
variable {w0 w w' : World} {base g pb L : Nat} {s : List UInt8} {st : PS} {l : List JV}
/-- A block that is none of the parser's was written. -/
theorem At.write {b : Nat} (h : At w0 base g s w st) (hb : w0.heap.size ≤ b) (ht : ∀ c fz, w.heap[b]? ≠ some (.cells c 84 fz)) (hos : w'.os = w.os ∧ w'.tape = w.tape ∧ w'.output = w.output) (hs : w.heap.size ≤ w'.heap.size) (hk : ∀ k, k < w.heap.size → k ≠ b → w'.heap[k]? = w.heap[k]?) : At w0 base g s w' st := by
  obtain ⟨⟨p, h1, h2, h3, h4⟩, ht0, hbs, hl, hg⟩ := h
  refine ⟨⟨p, (hk g (lt_of_heap h1) (by omega)).trans h1, h2, h3, ?_⟩, ⟨hos.1.trans ht0.os, hos.2.1.trans ht0.tape, hos.2.2.trans ht0.output, Nat.le_trans ht0.size hs, fun k h5 h6 => (hk k (Nat.lt_of_lt_of_le h5 ht0.size) (by omega)).trans (ht0.block k h5 h6)⟩, hbs, hl, hg⟩
  revert h4
  cases st.fault with
  | none => exact id
  | some x =>
    rintro ⟨f, e1, e2, e3, e4⟩
    refine ⟨f, e1, e2, e3, (hk f (lt_of_heap e4) (fun e => ?_)).trans e4⟩
    rw [e] at e4
    exact ht _ _ e4
theorem At.grown {v : Value} (h : At w0 base g s w st) (hg : w.grownBy w' v.ownBlock) (hv : ∀ k, v.ownBlock = some k → w0.heap.size ≤ k ∧ ∀ c fz, w.heap[k]? ≠ some (.cells c 84 fz)) : At w0 base g s w' st := by
  cases hb : v.ownBlock with
  | none =>
    rw [hb] at hg
    exact h.below ⟨hg.os, hg.tape, hg.output, hg.size, fun k hk => hg.block k hk (by simp)⟩
  | some b =>
    rw [hb] at hg
    obtain ⟨h1, h2⟩ := hv b hb
    exact h.write h1 h2 ⟨hg.os, hg.tape, hg.output⟩ hg.size (fun k hk hn => hg.block k hk (fun e => hn (Option.some.inj e)))
theorem row_kind {w : World} {lo n sz : Nat} {t : TypeId} {v : Value} {xs : List Value} (h : w.ownsRow lo t sz v n xs) (ht : t ≠ 84) : ∀ k, v.ownBlock = some k → lo ≤ k ∧ ∀ c fz, w.heap[k]? ≠ some (.cells c 84 fz) := by
  intro k hk
  refine ⟨(World.ownsRow.lt h k hk).1, fun c fz e => ?_⟩
  obtain ⟨_, h1 | ⟨b, cap, cur, e1, e2, e3, _⟩⟩ := h
  · rw [h1.1] at hk; cases hk
  · rw [e1] at hk
    obtain rfl : b = k := Option.some.inj hk
    rw [e3] at e
    simp only [Option.some.injEq, Obj.cells.injEq] at e
    exact ht e.2.1
theorem At.set1 {L : Nat} {T : TypeId} {x : Value} {cs : Array Value} (h : At w0 base g s w st) (hL : w.heap[L]? = some (.cells cs T (0, 0))) (hT : T ≠ 84) (hb : w0.heap.size ≤ L) : At w0 base g s (w.setCell ⟨L, 0, none⟩ x) st :=
  h.write hb (fun c fz e => by rw [hL] at e; simp only [Option.some.injEq, Obj.cells.injEq] at e; exact hT e.2.1) ⟨rfl, rfl, rfl⟩ (by simp [World.setCell]) (fun k _ hn => Below.heap_setCell _ _ _ _ hn)
/-- The variables of list: p's box at pb, the list at L. -/
structure LI (w0 : World) (g pb L : Nat) (l : List JV) (w : World) : Prop where
  box : w.heap[pb]? = some (.cells #[.pointer (some ⟨g, 0, none⟩)] 77 (0, 0))
  var : ∃ v us, w.heap[L]? = some (.cells #[v] 49 (0, 0)) ∧ LV w (L + 1) 30 1 v us us l
  lim : w0.heap.size ≤ pb ∧ pb < L ∧ g < w0.heap.size
theorem LI.turn (h : LI w0 g pb L l w) (ht : Turn g w w') : LI w0 g pb L l w' := by
  obtain ⟨h1, ⟨v, us, h2, h3⟩, h4, h5, h6⟩ := h
  exact ⟨(ht.block pb (lt_of_heap h1) (by omega)).trans h1, ⟨v, us, (ht.block L (lt_of_heap h2) (by omega)).trans h2, h3.turn ht (by omega)⟩, h4, h5, h6⟩
theorem vinfo : (Tryd.prog.info? 30).map (fun i => (i.zero, i.size, i.bytes)) = some (some .nilIface, 1, 16) := by kernel_rfl
/-- A slice of one value is built. -/
theorem slice1v {ops : Array Oper} {rest : List Oper} {o : Oper} {a : Act} {w : World} {Q : Exit → Act → World → Prop} {x : Operand} {u : Value} {t e : TypeId} {ie : TypeInfo} {z : Value} (hg : o.guard = none) (ho : o.op = .buildSlice t 1 #[(0, x)])
    (hx : a.eval x = u) (hl : u.cells = #[u]) (hu : Tryd.prog.underlying t = some (.slice e)) (hie : Tryd.prog.info? e = some ie) (hz : ie.zero = some z) (hsz : ie.size = 1)
    (h : wpList Tryd.prog ops Q rest (a.put o.dst (.slice (some ⟨w.heap.size, 0, none⟩) 1 1)) (w.alloc (.cells #[u] e))) : wpList Tryd.prog ops Q (o :: rest) a w := by
  refine wpList_buildSlice hg t e 1 _ ho #[u] ie z hu hie hz (by rw [hsz]; omega) (by rw [hsz]; omega) ?_ h
  simp only [List.map_toArray, List.map_cons, List.map_nil, hx, hsz]
  have := Go.Great.fill_whole (s := 1) (by decide) [u] ((Array.range (1 * 1)).map (z.cells[· % z.cells.size]!)) (fun v hv => by simp at hv; subst hv; rw [hl]; rfl) (by simp)
  refine this.trans ?_
  simp [hl]
set_option maxRecDepth 100000 in
set_option maxHeartbeats 800000 in
theorem list1_any {n : Nat} (hV : VAL s n) (h : At w0 base g s w st) (hI : LI w0 g pb L l w) (hn : s.length - st.at_ < n) (hd0 : 0 ≤ st.depth) (hd1 : st.depth ≤ 16) (hln : l.length ≤ 8192) :
    Calls Tryd.prog 82 #[.pointer (some ⟨L, 0, none⟩), .pointer (some ⟨pb, 0, none⟩)] w fun e w' => e = .returned (.tuple #[]) ∧ At w0 base g s w' (listOne (valP s n) l st).2 ∧ LI w0 g pb L (listOne (valP s n) l st).1 w' := by
  obtain ⟨hbox, ⟨v, us, hvar, hLV⟩, l1, l2, l3⟩ := hI
  obtain ⟨i0, hi0, hz0, hz1, hz2⟩ := info_parts vinfo
  have E0 : Hid (∀ w', Turn g w w' → w'.cell? ⟨L, 0, none⟩ = some v) := fun w' ht => cell_of_row w' L 0 _ _ _ ((ht.block L (lt_of_heap hvar) (by omega)).trans hvar)
  have E1 : Hid (∀ w', Turn g w w' → w'.cell? ⟨pb, 0, none⟩ = some (.pointer (some ⟨g, 0, none⟩))) := fun w' ht => cell_of_row w' pb 0 _ _ _ ((ht.block pb (lt_of_heap hbox) (by omega)).trans hbox)
  obtain ⟨A, c, rfl, _, _⟩ := hLV.rd
  have HV := Lib.hid (show ∀ w1, Below w.heap.size w w1 → _ from fun w1 hb => hV _ _ _ _ (h.below hb).self (fun _ => ⟨hn, hd0, hd1⟩) (by omega))
  have H := Lib.hid h
  have HLV := Lib.hid hLV
  have HBX := Lib.hid hbox
  have HVR := Lib.hid hvar
  have HLN := Lib.hid hln
  clear hV h hbox hvar hLV hn hd0 hd1 hln
  go_enter Tryd.func82, Tryd.ntmps82
  go_wp2
  refine AnyCZ.start [5] (fun w' => w'.cell? ⟨L, 0, none⟩ = some (.slice A l.length c) ∧ w'.cell? ⟨pb, 0, none⟩ = some (.pointer (some ⟨g, 0, none⟩))) (by kernel_rfl) rfl ?_
  intro w1 hb1
  have B1 := Lib.hid (Turn.of_below (g := g) hb1)
  have BB := Lib.hid hb1
  clear hb1
  apply AnyCZ.take (i := 0) rfl (by kernel_rfl) (by kernel_rfl) rfl
  · intro w' hC K hK
    have cc := hC.1
    go_wp2
    exact hK
  · rfl
  apply AnyCZ.take (i := 1) rfl (by kernel_rfl) (by kernel_rfl) rfl
  · intro w' hC K hK
    have cc := hC.2
    go_wp2
    exact hK
  · rfl
  apply AnyCZ.solo (i := 2) rfl (by kernel_rfl) ⟨E0.out _ B1.out, E1.out _ B1.out⟩
  go_wp2_with (go_at_call 32; go_must (refine (HV.out w1 BB.out).mono ?_; rintro e w2 ⟨u, rfl, h2, hu⟩))
  refine ⟨rfl, ?_⟩
  have T2 := Lib.hid (B1.out.trans h2.turn)
  have hu1 := hu.one
  have HU := Lib.hid hu
  have H2 := Lib.hid h2
  clear hu h2
  apply AnyCZ.solo (i := 3) rfl (by kernel_rfl) ⟨E0.out _ T2.out, E1.out _ T2.out⟩
  refine slice1v rfl rfl rfl hu1.1 Tryd.underlying49 hi0 hz0 hz1 ?_
  go_wp2
  refine ⟨rfl, ?_⟩
  obtain ⟨w3, hw3⟩ : ∃ w3, w3 = w2.alloc (.cells #[u] 30) := ⟨_, rfl⟩
  have hb3 : Below w2.heap.size w2 w3 := by rw [hw3]; exact (Below.refl _ _).alloc (Nat.le_refl _) _
  have hblk : w3.heap[w2.heap.size]? = some (.cells #[u] 30 (0, 0)) := by rw [hw3]; exact heap_alloc_new _ _
  rw [← hw3]
  have T3 := Lib.hid (T2.out.trans (Turn.of_below hb3))
  have B3 := Lib.hid hb3
  have HLV2 := Lib.hid (HLV.out.turn T2.out (by omega))
  have HLV3 := Lib.hid (HLV2.out.below hb3)
  clear hw3 hb3
  apply AnyCZ.solo (i := 4) rfl (by kernel_rfl) ⟨E0.out _ T3.out, E1.out _ T3.out⟩
  refine app1 rfl rfl rfl rfl Tryd.underlying49 hi0 hz0 hz1 hz2 (by rfl) (by decide) HLV3.out.own hblk rfl (by simp [hu1.2]) (by have := HLN.out; omega) (by have := HLN.out; omega) (by have := B3.out.size; have := lt_of_heap HVR.out; have := T3.out.size; omega) ?_
  intro v' w4 ho4 hg4 hb4
  have hM := HLV2.out.more (m := w1.heap.size) (ys := #[u].toList) (fun k hk => by have h1_ := HLV.out.blk k hk; have h2_ := B1.out.size; omega) HU.out B3.out rfl ho4 hg4 hb4 (by have := lt_of_heap HVR.out; have := B1.out.size; omega)
  go_wp2
  refine ⟨rfl, ?_⟩
  have hnL : (Value.slice A l.length c).ownBlock ≠ some L := fun e => by have := (World.ownsRow.lt HLV.out.own _ e).1; omega
  have hL3 : w3.heap[L]? = some (.cells #[.slice A l.length c] 49 (0, 0)) := (T3.out.block L (lt_of_heap HVR.out) (by omega)).trans HVR.out
  have hL4 : w4.heap[L]? = some (.cells #[.slice A l.length c] 49 (0, 0)) := own_other hL3 hg4 hnL
  have hnp : (Value.slice A l.length c).ownBlock ≠ some pb := fun e => by have := (World.ownsRow.lt HLV.out.own _ e).1; omega
  have hp3 : w3.heap[pb]? = some (.cells #[.pointer (some ⟨g, 0, none⟩)] 77 (0, 0)) := (T3.out.block pb (lt_of_heap HBX.out) (by omega)).trans HBX.out
  have hp4 := own_other hp3 hg4 hnp
  have c4 := cell_of_row w4 L 0 _ _ _ hL4
  have f4 := frozen_row hL4 0
  have HM := Lib.hid hM
  have HL4 := Lib.hid hL4
  have HP4 := Lib.hid hp4
  have HG4 := Lib.hid hg4
  have HL3 := Lib.hid hL3
  obtain ⟨A', c', rfl, _, _⟩ := hM.rd
  clear hM hL4 hp4 hg4 hL3 hp3
  apply AnyCZ.soloW (i := 5) rfl (by kernel_rfl) ⟨c4, cell_of_row w4 pb 0 _ _ _ HP4.out⟩
  go_wp2
  refine ⟨rfl, ?_⟩
  refine AnyW.done (by kernel_rfl) ?_
  first
    | go_end0
    | (refine bodyPost_ret (results_none rfl _ _ _) rfl ?_)
  refine ⟨rfl, ?_, ?_⟩
  · have a3 := (H.out.step H2.out.ps T2.out).below B3.out
    have a4 := a3.grown HG4.out (fun k hk => by
      have h_ := row_kind HLV3.out.own (by decide) k hk
      exact ⟨by omega, h_.2⟩)
    exact a4.set1 HL4.out (by decide) (by omega)
  · have h5 := HM.out.setCell (p := ⟨L, 0, none⟩) (by show L < L + 1; omega) (.slice A' (l.length + 1) c')
    rw [show (l ++ [(valP s n st).1]).length = l.length + 1 by simp] at h5
    refine ⟨(heap_setCell_other _ _ _ _ (show pb ≠ L by omega)).trans HP4.out, ⟨_, us ++ [u], heap_setCell_same _ _ _ _ _ _ HL4.out, h5⟩, l1, l2, l3⟩
set_option maxRecDepth 100000 in
set_option maxHeartbeats 800000 in
theorem list_at {n : Nat} (hV : VAL s n) (h : At w base g s w st) (hlt : st.at_ < s.length) (hn : s.length - st.at_ ≤ n) (hd0 : 0 ≤ st.depth) (hd1 : st.depth ≤ 16) :
    Calls Tryd.prog 59 #[.pointer (some ⟨g, 0, none⟩)] w fun e w' => ∃ v, e = .returned v ∧ At w base g s w' (memP s 93 (listOne (valP s n)) n [] st).2 ∧ IsV w' (fun k => w.heap.size ≤ k ∧ k < w'.heap.size) v (.list (memP s 93 (listOne (valP s n)) n [] st).1) := by
  have hV2 := Lib.hid hV
  have H := Lib.hid h
  have hall : ∀ w2, w2 = (w.alloc (.cells #[.pointer (some ⟨g, 0, none⟩)] 77)).alloc (.cells #[.slice none 0 0] 49) → Calls Tryd.prog 79 #[.pointer (some ⟨g, 0, none⟩), .int .u8 93, .func (.func 82) #[] #[.pointer (some ⟨w.heap.size + 1, 0, none⟩), .pointer (some ⟨w.heap.size, 0, none⟩)]] w2
      (fun en w' => en = .returned (.tuple #[]) ∧ At w base g s w' (memP s 93 (listOne (valP s n)) n [] st).2 ∧ LI w g w.heap.size (w.heap.size + 1) (memP s 93 (listOne (valP s n)) n [] st).1 w') := by
    intro w2 hw2
    have hb1 : Below w.heap.size w (w.alloc (.cells #[.pointer (some ⟨g, 0, none⟩)] 77)) := (Below.refl _ _).alloc (Nat.le_refl _) _
    have hb2 : Below w.heap.size w w2 := by rw [hw2]; exact hb1.alloc hb1.size _
    have hs1 : (w.alloc (.cells #[.pointer (some ⟨g, 0, none⟩)] 77)).heap.size = w.heap.size + 1 := by simp
    have hL := heap_alloc_new (w.alloc (.cells #[.pointer (some ⟨g, 0, none⟩)] 77)) (.cells #[.slice none 0 0] 49)
    rw [hs1, ← hw2] at hL
    have hp := heap_below (heap_alloc_new w (.cells #[.pointer (some ⟨g, 0, none⟩)] 77)) ((Below.refl _ _).alloc (Nat.le_refl _) (.cells #[.slice none 0 0] 49))
    rw [← hw2] at hp
    refine members_list 93 (listOne (valP s n)) (fun l w' => LI w g w.heap.size (w.heap.size + 1) l w') _ [] n n List.length rfl (fun x st => by simp [listOne]) (fun x w1 w2 hI ht => hI.turn ht) (fun x st => valP_le s n st) (fun x st => valP_depth s n st)
      (fun x w1 st1 hA hI hf hlx hN hq0 hq1 => list1_any hV2.out hA hI hN hq0 hq1 (by have := hA.ps.len; have := hA.len8; omega)) (H.out.below hb2) ⟨hp, ⟨_, [], hL, LV.nil _ _ _ _⟩, Nat.le_refl _, by omega, H.out.glt⟩ hlt hn (Nat.le_refl _) hd0 hd1 93 rfl
  have HALL := Lib.hid hall
  clear hV hV2 h hall hlt hn hd0 hd1
  go_enter Tryd.func59, Tryd.ntmps59
  go_wp2_with (go_at_call 79; go_must (refine (HALL.out _ rfl).mono ?_; rintro en w3 ⟨rfl, h3, i3⟩; obtain ⟨hbx, ⟨v, us, hvr, hlv⟩, _, _, _⟩ := i3; obtain ⟨A, c, rfl, _, _⟩ := hlv.rd; have c3 := cell_of_row w3 (w.heap.size + 1) 0 _ _ _ hvr; have HLV3 := Lib.hid hlv; clear hlv hbx hvr))
  go_ret
  refine ⟨_, rfl, h3, HLV3.out.list.keep (fun k _ => rfl) (fun k hF => ⟨by omega, hF.2⟩)⟩
end
end Go.Proofs.YtkbopeoaoakfnaaDoor

namespace Go.Proofs.YtkbopeoaoakfnaaDoor
open Go.RowKit
/-- How a truth in a map reads. -/
def boolElem : Value → Option (DataW Unit × List MemPlace)
  | .bool b => some (.lit (.bool b), [])
  | _ => none
/-- The map at m holds just the keys ks. -/
def KI (w : World) (m : Nat) (ks : List (List UInt8)) : Prop :=
  ∃ (n : Nat) (D : DataW Unit), w.ownsMap Tryd.prog 9 boolElem m n D ∧ n ≤ ks.length ∧ ∀ (k : List UInt8) (z : DataW Unit), D.atKey (.string k) z = if k ∈ ks then .lit (.bool true) else z
section
variable {w w' : World} {m : Nat} {ks : List (List UInt8)}
theorem KI.made (w : World) : KI (w.alloc (.map #[] 0)) w.heap.size [] := ⟨0, _, World.ownsMap_made w Tryd.prog 9 boolElem, Nat.le_refl _, fun k z => by simp [DataW.atKey]⟩
theorem KI.lt (h : KI w m ks) : m < w.heap.size := by obtain ⟨n, D, h1, _⟩ := h; exact h1.lt
theorem KI.kept {row : Option Nat} (h : KI w m ks) (hg : w.grownBy w' row) (hne : some m ≠ row) : KI w' m ks := by obtain ⟨n, D, h1, h2, h3⟩ := h; exact ⟨n, D, h1.kept hg hne, h2, h3⟩
theorem key_of (k : List UInt8) (hk : k.length ≤ 1000000) : keyOf Tryd.prog 9 (.string ⟨k.toArray⟩) = some (.string k) := by
  rw [keyOf_string Tryd.underlying9]
  simp [mapKey, Tryd.underlying9, ByteArray.size, maxLen]
  omega
theorem bool_zero (w : World) : (zeroValue 4).run Tryd.prog w = .ok (.bool false) w := by kernel_rfl
theorem KI.look (h : KI w m ks) (k : List UInt8) (hk : k.length ≤ 1000000) : (Instr.lookup 124 (.map (some m)) (.string ⟨k.toArray⟩) false).run Tryd.prog w = .ok (.bool (decide (k ∈ ks))) w := by
  obtain ⟨n, D, h1, _, h3⟩ := h
  obtain ⟨v, ps, hrun, hv⟩ := h1.lookup (Maps.string_keyed Tryd.underlying9) Tryd.underlying124 (bool_zero w) (R := boolElem) (zd := .lit (.bool false)) (zp := []) rfl (key_of k hk)
  rw [hrun]
  rw [h3] at hv
  have h4 : v = .bool (decide (k ∈ ks)) := by
    cases v with
    | bool b =>
      simp only [boolElem, Option.some.injEq, Prod.mk.injEq] at hv
      by_cases hm : k ∈ ks
      · rw [if_pos hm] at hv
        have := hv.1
        simp only [DataW.lit.injEq, Lit.bool.injEq] at this
        simp [this, hm]
      · rw [if_neg hm] at hv
        have := hv.1
        simp only [DataW.lit.injEq, Lit.bool.injEq] at this
        simp [this, hm]
    | _ => simp [boolElem] at hv
  rw [h4]
theorem KI.put (h : KI w m ks) (hlen : ks.length ≤ 1000000) (k : List UInt8) (hk : k.length ≤ 1000000) : ∃ w', (Instr.mapUpdate 124 (.map (some m)) (.string ⟨k.toArray⟩) (.bool true)).run Tryd.prog w = .ok () w' ∧ KI w' m (ks ++ [k]) ∧ w.grownBy w' (some m) := by
  obtain ⟨n, D, h1, h2, h3⟩ := h
  have K := Maps.string_keyed (P := Tryd.prog) Tryd.underlying9
  obtain ⟨w2, hrun, ho, ht⟩ := h1.store K Tryd.underlying124 (by simp only [maxLen]; omega) (R := boolElem) (val := .bool true) (d := .lit (.bool true)) (ps := []) (key_of k hk) rfl
  refine ⟨w2, hrun, ⟨n + 1, _, ho, by simp; omega, fun k' z => ?_⟩, ht.grown⟩
  by_cases e : k' = k
  · subst e
    rw [Maps.atKey_put_same h1.isMap (K.key (key_of k' hk)), if_pos (by simp)]
  · rw [Maps.atKey_put_other (by intro h; cases h; exact e rfl), h3]
    simp [e]
end
end Go.Proofs.YtkbopeoaoakfnaaDoor
