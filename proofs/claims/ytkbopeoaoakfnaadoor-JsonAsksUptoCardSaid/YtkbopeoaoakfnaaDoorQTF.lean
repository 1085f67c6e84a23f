/- The texts ArgTree JT8 of this work, merged by wip/merge.py. No conditions. -/
import Derived.Test.YtkbopeoaoakfnaaDoorQA
import Derived.Test.YtkbopeoaoakfnaaDoorQTD
import Derived.Deep.SlicePairs
import Derived.Test.YtkbopeoaoakfnaaDoorQP
namespace Go.Proofs.YtkbopeoaoakfnaaDoor
open Go.RowKit Go.ChangeShapes Go.WideShapes Go.Deep
theorem sum_fives : ∀ n : Nat, ((List.range n).map (fun _ => 5)).sum = n * 5
  | 0 => rfl
  | n + 1 => by
    rw [List.range_succ, List.map_append, List.sum_append, sum_fives n]
    simp
    omega
instance : Inhabited TR := ⟨.mk 0 false [] [] []⟩
mutual
/-- How much a tree is. -/
def bulkT : TR → Nat
  | .mk _ _ s ks ps => s.length + (ks.map (fun k => k.length + 1)).sum + bulkTL ps + 1
def bulkTL : List TR → Nat
  | [] => 0
  | t :: l => bulkT t + bulkTL l
end
theorem bulkTL_map : ∀ l, bulkTL l = (l.map bulkT).sum
  | [] => rfl
  | t :: l => by rw [bulkTL, bulkTL_map l]; simp
theorem bulkTL_len : ∀ l : List TR, l.length ≤ bulkTL l
  | [] => Nat.le_refl _
  | t :: l => by
    have := bulkTL_len l
    have h1 : 1 ≤ bulkT t := by cases t; rw [bulkT]; omega
    rw [bulkTL, List.length_cons]
    omega
theorem bulkTL_mem : ∀ (l : List TR) (t : TR), t ∈ l → bulkT t ≤ bulkTL l
  | t0 :: l, t, h => by
    rw [bulkTL]
    rcases List.mem_cons.1 h with rfl | h
    · omega
    · have := bulkTL_mem l t h; omega
theorem sm_bulk : ∀ (n : Nat) (t : TR), SizeOf.sizeOf t ≤ n → bulkT t ≤ 1048576 → Sm t
  | 0, t, hn, _ => by cases t; simp at hn
  | n + 1, .mk k b s ks ps, hn, hb => by
    rw [bulkT] at hb
    refine .mk k b s ks ps (by have := bulkTL_len ps; omega) (fun p hp => sm_bulk n p ?_ ?_)
    · have := List.sizeOf_lt_of_mem hp
      simp at hn
      omega
    · have := bulkTL_mem ps p hp; omega
section
variable {H : Type} {enc : TypeId × Value → H} {w : World} {base : Nat} {held : Bool}
theorem cellsTree : Tryd.prog.cellsOf 25 = 5 := by kernel_rfl
theorem cellsStr : Tryd.prog.cellsOf 9 = 1 := by kernel_rfl
theorem cellsIntT : Tryd.prog.cellsOf 3 = 1 := by kernel_rfl
theorem cellsBoolT : Tryd.prog.cellsOf 4 = 1 := by kernel_rfl
theorem cellsStrs : Tryd.prog.cellsOf 22 = 1 := by kernel_rfl
theorem cellsTrees : Tryd.prog.cellsOf 23 = 1 := by kernel_rfl
theorem bulkAll_mem : ∀ (l : List (DataW H)) (d : DataW H), d ∈ l → Rows.uptoBulk d ≤ Rows.uptoBulkAll l
  | d0 :: l, d, h => by
    simp only [Rows.uptoBulkAll]
    rcases List.mem_cons.1 h with rfl | h
    · omega
    · have := bulkAll_mem l d h; omega
theorem bulkAll_sum : ∀ (l : List (DataW H)), Rows.uptoBulkAll l = (l.map Rows.uptoBulk).sum
  | [] => rfl
  | d :: l => by simp only [Rows.uptoBulkAll, List.map_cons, List.sum_cons]; rw [bulkAll_sum l]
theorem spot_none {a : Addr} {v : Value} (h : w.cell? (a.add 0) = some v) : a.spot = none := by
  have := World.cell?_spot h
  simpa [Addr.add] using this
set_option maxRecDepth 100000 in
/-- A slice of strings opened. -/
theorem open_strs {fuel : Nat} {cs : List Value} {x : DataW H × List MemPlace} (h : DataW.trod enc Tryd.prog w base (fun _ => true) held fuel 22 cs = some x) :
    ∃ (A : Option Addr) (c : Nat) (ks : List (List UInt8)), cs = [.slice A ks.length c] ∧ Rd w (fun k => k < w.heap.size) A (strs ks) ∧ (ks.map (fun k => k.length + 1)).sum ≤ Rows.uptoBulk x.1 := by
  rcases open_slice Tryd.underlying22 h with ⟨rfl, hx⟩ | ⟨a, len, cap, m, n, D, Pl, rfl, _, hl, hm, hmm, hx, hi⟩
  · exact ⟨none, 0, [], rfl, fun h0 => absurd rfl h0, by simp⟩
  · simp only [if_true] at hmm
    have each : ∀ i, i < len → ∃ k : List UInt8, w.cell? (a.add i) = some (.string ⟨k.toArray⟩) ∧ D i = .lit (.string k) := by
      intro i hin
      obtain ⟨cs', h1, h2⟩ := hi i (by omega)
      rw [cellsStr, Nat.mul_one] at h1
      obtain ⟨_, hlen, hcell⟩ := World.cells?_some h1
      obtain ⟨s, rfl, hs, _⟩ := DataW.trod_string Tryd.underlying9 h2
      have e0 := hcell 0 (by omega)
      rw [Go.Deep.add_add, Nat.add_zero] at e0
      refine ⟨s.data.toList, ?_, by injection hs⟩
      simpa using e0
    obtain ⟨K, hK⟩ := choose_lt each
    have hlen : ((List.range len).map K).length = len := by simp
    refine ⟨some a, cap, (List.range len).map K, by rw [hlen], fun h0 => ?_, ?_⟩
    · have hpos : 0 < len := by
        rcases Nat.eq_zero_or_pos len with h1 | h1
        · subst h1; exact absurd rfl h0
        · exact h1
      have hsp := spot_none (hK 0 hpos).1
      obtain ⟨b, off, spot⟩ := a
      simp only at hsp
      subst hsp
      have hb := World.block_lt_of_cell? w _ (hK 0 hpos).1
      refine ⟨b, off, rfl, by rw [add_none] at hb; exact hb, fun j u hu => ?_⟩
      simp only [strs, List.getElem?_map] at hu
      rcases Nat.lt_or_ge j len with hj | hj
      · rw [List.getElem?_range hj] at hu
        simp at hu
        rw [← hu]
        have := (hK j hj).1
        rwa [add_none] at this
      · rw [List.getElem?_eq_none (by simpa using hj)] at hu
        simp at hu
    · rw [hx]
      simp only [Rows.uptoBulk]
      rw [bulkAll_sum, List.map_map, List.map_map]
      have he : (List.range len).map ((fun k : List UInt8 => k.length + 1) ∘ K) = (List.range len).map (Rows.uptoBulk ∘ D) := by
        refine List.map_congr_left (fun i hi => ?_)
        have := (hK i (List.mem_range.1 hi)).2
        simp [this, Rows.uptoBulk]
      rw [he]
      omega
set_option maxRecDepth 100000 in
/-- The cells of a tree opened. -/
theorem open_tree : ∀ (N fuel : Nat) (cs : List Value) (x : DataW H × List MemPlace), Rows.uptoBulk x.1 ≤ N → DataW.trod enc Tryd.prog w base (fun _ => true) held fuel 25 cs = some x → ∃ t : TR, IsT w (fun k => k < w.heap.size) cs t ∧ bulkT t ≤ Rows.uptoBulk x.1
  | 0, fuel, cs, x, hN, h => by have := bulk_pos x.1; omega
  | N + 1, fuel, cs, x, hN, h => by
    obtain ⟨xs, k, _, hxy, hcl, hxl, hfl⟩ := DataW.trod_struct Tryd.underlying25 h
    rw [cellsTree] at hcl
    match xs, hxl, cs, hcl with
    | [y0, y1, y2, y3, y4], _, [v0, v1, v2, v3, v4], _ =>
      have g0 := hfl 0 _ rfl
      have g1 := hfl 1 _ rfl
      have g2 := hfl 2 _ rfl
      have g3 := hfl 3 _ rfl
      have g4 := hfl 4 _ rfl
      simp [cellsIntT, cellsBoolT, cellsStr, cellsStrs, cellsTrees] at g0 g1 g2 g3 g4
      obtain ⟨z0, f0, e0, w0⟩ := DataW.trod_int Tryd.underlying3 g0
      obtain ⟨b1, f1, e1⟩ := DataW.trod_bool Tryd.underlying4 g1
      obtain ⟨s2, f2, e2, _⟩ := DataW.trod_string Tryd.underlying9 g2
      obtain ⟨A3, c3, ks, f3, r3, u3⟩ := open_strs g3
      simp only [List.cons.injEq, and_true] at f0 f1 f2 f3
      subst f0 f1 f2 f3
      have hbulk : Rows.uptoBulk x.1 = Rows.uptoBulk y0.1 + (Rows.uptoBulk y1.1 + (Rows.uptoBulk y2.1 + (Rows.uptoBulk y3.1 + Rows.uptoBulk y4.1))) + 1 := by
        rw [hxy]; simp [Rows.uptoBulk, Rows.uptoBulkAll]
      have hs2 : Rows.uptoBulk y2.1 = s2.data.toList.length + 1 := by rw [e2]; simp [Rows.uptoBulk]
      have p0 := bulk_pos y0.1
      have p1 := bulk_pos y1.1
      have key : ∃ (A4 : Option Addr) (c4 : Nat) (uss : List (List Value)) (ps : List TR), v4 = .slice A4 ps.length c4 ∧ uss.length = ps.length ∧ Rd w (fun k => k < w.heap.size) A4 uss.flatten ∧ (∀ (i : Nat) (us : List Value) (t : TR), uss[i]? = some us → ps[i]? = some t → IsT w (fun k => k < w.heap.size) us t) ∧ bulkTL ps ≤ Rows.uptoBulk y4.1 := by
        rcases open_slice Tryd.underlying23 g4 with ⟨hcs, _⟩ | ⟨a, len, cap, m, n, D, Pl, hcs, _, hl, hm, hmm, hx4, hi⟩
        · simp only [List.cons.injEq, and_true] at hcs
          exact ⟨none, 0, [], [], hcs, rfl, fun h0 => absurd rfl h0, fun i us t hi => by simp at hi, by rw [bulkTL]; omega⟩
        · simp only [List.cons.injEq, and_true] at hcs
          simp only [if_true] at hmm
          have hb4 : (((List.range len).map D).map Rows.uptoBulk).sum < Rows.uptoBulk y4.1 := by
            rw [hx4]
            simp only [Rows.uptoBulk]
            rw [bulkAll_sum]
            omega
          have each : ∀ i, i < len → ∃ q : List Value × TR, q.1.length = 5 ∧ (∀ (j : Nat) (u : Value), q.1[j]? = some u → w.cell? (a.add (i * 5 + j)) = some u) ∧ IsT w (fun k => k < w.heap.size) q.1 q.2 ∧ bulkT q.2 ≤ Rows.uptoBulk (D i) := by
            intro i hin
            obtain ⟨cs', h1, h2⟩ := hi i (by omega)
            rw [cellsTree] at h1
            obtain ⟨_, hlen, hcell⟩ := World.cells?_some h1
            have hlt : Rows.uptoBulk (D i) ≤ N := by
              have := bulkAll_mem ((List.range len).map D) (D i) (List.mem_map.2 ⟨i, by simpa using hin, rfl⟩)
              rw [bulkAll_sum] at this
              omega
            obtain ⟨t, ht, hbt⟩ := open_tree N n cs' (D i, Pl i) hlt h2
            refine ⟨(cs', t), hlen, fun j u hu => ?_, ht, hbt⟩
            have hu : cs'[j]? = some u := hu
            have hj : j < 5 := by have := (List.getElem?_eq_some_iff.1 hu).1; omega
            have := hcell j (by omega)
            rw [Go.Deep.add_add] at this
            rw [this]
            rw [← hu]
          obtain ⟨q, hq⟩ := choose_lt each
          have hlen : ((List.range len).map fun i => (q i).2).length = len := by simp
          refine ⟨some a, cap, (List.range len).map fun i => (q i).1, (List.range len).map fun i => (q i).2, by rw [hlen]; exact hcs, by simp, fun h0 => ?_, fun i us t hu ht => ?_, ?_⟩
          · have hpos : 0 < len := by
              rcases Nat.eq_zero_or_pos len with h1 | h1
              · subst h1; exact absurd rfl h0
              · exact h1
            have h5 : ∀ us ∈ (List.range len).map (fun i => (q i).1), us.length = 5 := by
              intro us hm
              obtain ⟨i, hi, rfl⟩ := List.mem_map.1 hm
              exact (hq i (List.mem_range.1 hi)).1
            have h00 := (hq 0 hpos).2.1 0 _ (List.getElem?_eq_getElem (by rw [(hq 0 hpos).1]; omega))
            have h00 : w.cell? (a.add 0) = some ((q 0).1[0]'(by rw [(hq 0 hpos).1]; omega)) := h00
            have hsp := spot_none h00
            obtain ⟨b, off, spot⟩ := a
            simp only at hsp
            subst hsp
            have hb := World.block_lt_of_cell? w _ h00
            refine ⟨b, off, rfl, by rw [add_none] at hb; exact hb, fun j u hu => ?_⟩
            have hj : j < ((List.range len).map (fun i => (q i).1)).flatten.length := (List.getElem?_eq_some_iff.1 hu).1
            have hfl5 : ((List.range len).map (fun i => (q i).1)).flatten.length = len * 5 := by
              rw [List.length_flatten, List.map_map]
              have : (List.range len).map (List.length ∘ fun i => (q i).1) = (List.range len).map (fun _ => 5) := List.map_congr_left (fun i hi => (hq i (List.mem_range.1 hi)).1)
              rw [this]
              exact sum_fives len
            have hji : j / 5 < len := by omega
            have hgi : ((List.range len).map (fun i => (q i).1))[j / 5]? = some (q (j / 5)).1 := by simp [hji]
            obtain ⟨u', hu'⟩ : ∃ u', (q (j / 5)).1[j % 5]? = some u' := ⟨_, List.getElem?_eq_getElem (by rw [(hq _ hji).1]; omega)⟩
            have h6 := flat5 _ h5 (j / 5) _ hgi (j % 5) u' hu'
            rw [show j / 5 * 5 + j % 5 = j by omega, hu] at h6
            obtain rfl := Option.some.inj h6
            have h7 := (hq _ hji).2.1 (j % 5) u hu'
            rwa [show j / 5 * 5 + j % 5 = j by omega, add_none] at h7
          · rcases Nat.lt_or_ge i len with hi2 | hi2
            · simp [hi2] at hu ht
              rw [← hu, ← ht]
              exact (hq i hi2).2.2.1
            · rw [List.getElem?_eq_none (by simpa using hi2)] at hu
              cases hu
          · rw [bulkTL_map, List.map_map]
            have hle : ∀ n, n ≤ len → ((List.range n).map (bulkT ∘ fun i => (q i).2)).sum ≤ (((List.range n).map D).map Rows.uptoBulk).sum := by
              intro n
              induction n with
              | zero => intro _; simp
              | succ n ihn =>
                intro hn
                have h1 := ihn (by omega)
                have h2 := (hq n (by omega)).2.2.2
                rw [List.range_succ]
                simp only [List.map_append, List.sum_append, List.map_cons, List.map_nil, List.sum_cons, List.sum_nil, Function.comp]
                omega
            have := hle len (Nat.le_refl _)
            omega
      obtain ⟨A4, c4, uss, ps, rfl, hu, hr, he, hb4⟩ := key
      refine ⟨.mk z0 b1 s2.data.toList ks ps, ?_, ?_⟩
      · have hs : (⟨s2.data.toList.toArray⟩ : ByteArray) = s2 := by cases s2; simp
        have := IsT.mk (w := w) (F := fun k => k < w.heap.size) z0 b1 s2.data.toList A3 c3 ks A4 c4 uss ps hu r3 hr he
        rw [hs] at this
        exact this
      · rw [bulkT, hbulk, hs2]
        omega
/-- What the argument is. -/
def ArgT (w : World) (v : Value) (t : TR) : Prop := ∃ us, v = .agg us.toArray ∧ IsT w (fun k => k < w.heap.size) us t ∧ bulkT t ≤ 1048576
variable {r : Reach} {b0 : Nat} {v : Value} {d : DataW H} {p : List MemPlace}
set_option maxRecDepth 100000 in
theorem arg_tree (hv : Value.okWide Tryd.prog w r b0 25 v) (h : DataW.Trod enc Tryd.prog w base (fun _ => true) held 25 v d p) (hb : Rows.uptoBulk d ≤ 1048576) : ∃ t, ArgT w v t := by
  obtain ⟨fuel, hf⟩ := h
  simp only [Value.okWide, Tryd.underlying25] at hv
  obtain ⟨cs, rfl, _⟩ := hv
  obtain ⟨t, h1, h2⟩ := open_tree 1048576 fuel cs.toList (d, p) hb hf
  exact ⟨t, cs.toList, by simp, h1, Nat.le_trans h2 hb⟩
end
end Go.Proofs.YtkbopeoaoakfnaaDoor

namespace Go.Proofs.YtkbopeoaoakfnaaDoor
open Go
theorem quoteB_le (s : List UInt8) : (quoteB s).length ≤ 6 * s.length + 2 := by
  have := quoteD_len s.length s (Nat.le_refl _)
  unfold quoteB
  simp only [List.length_cons, List.length_append, List.length_nil]
  omega
theorem keysOf_sum (ks : List (List UInt8)) : ∀ n : Nat, ((keysOf ks n).map List.length).sum ≤ ((ks.take n).map List.length).sum
  | 0 => by simp [keysOf]
  | n + 1 => by
    have ih := keysOf_sum ks n
    have h1 : keysOf ks (n + 1) = keysOf ks n ++ [ks.getD n []] := by simp [keysOf, List.range_succ]
    rw [h1, List.take_add_one]
    simp only [List.map_append, List.sum_append, List.map_cons, List.map_nil, List.sum_cons, List.sum_nil]
    have h2 : (ks.getD n []).length ≤ (ks[n]?.toList.map List.length).sum := by
      cases hk : ks[n]? with
      | none => simp [List.getD, hk]
      | some x => simp [List.getD, hk]
    omega
theorem take_sum (ks : List (List UInt8)) (n : Nat) : ((ks.take n).map List.length).sum ≤ (ks.map (fun k => k.length + 1)).sum := by
  induction ks generalizing n with
  | nil => simp
  | cons k ks ih =>
    cases n with
    | zero => simp
    | succ n =>
      have := ih n
      simp only [List.take_succ_cons, List.map_cons, List.sum_cons]
      omega
mutual
theorem prt_len : ∀ t : TR, (prt (valT t)).length + 4 ≤ 14 * bulkT t
  | .mk k b s ks ps => by
    rw [valT, bulkT]
    split
    · rw [prt]; simp only [List.length_cons, List.length_nil]; omega
    split
    · rw [prt]; have : (Lib.formatBool b).length ≤ 5 := by cases b <;> decide
      omega
    split
    · rw [prt]; omega
    split
    · rw [prt]; have := quoteB_le s; omega
    split
    · rw [prt]
      have := prtL_len14 true ps
      simp only [List.length_cons, List.length_append, List.length_nil]
      omega
    split
    · rw [prt]
      have h1 := prtO_len14 true (keysOf ks ps.length) ps
      have h2 := keysOf_sum ks ps.length
      have h3 := take_sum ks ps.length
      simp only [List.length_cons, List.length_append, List.length_nil]
      omega
    · rw [prt]; simp only [List.length_cons, List.length_nil]; omega
theorem prtL_len14 : ∀ (f : Bool) (l : List TR), (prtL f (valTL l)).length ≤ 14 * bulkTL l
  | _, [] => by rw [valTL, prtL]; simp
  | f, t :: l => by
    have h1 := prt_len t
    have h2 := prtL_len14 false l
    rw [valTL, prtL, bulkTL]
    simp only [List.length_append]
    have h3 : (if f = true then ([] : List UInt8) else [44]).length ≤ 1 := by split <;> simp
    omega
theorem prtO_len14 : ∀ (f : Bool) (ks : List (List UInt8)) (l : List TR), (prtO f ks (valTL l)).length ≤ 6 * (ks.map List.length).sum + 14 * bulkTL l
  | _, _, [] => by rw [valTL, prtO]; simp
  | f, ks, t :: l => by
    have h1 := prt_len t
    have h2 := prtO_len14 false ks.tail l
    have h4 := quoteB_le (ks.headD [])
    rw [valTL, prtO, bulkTL]
    simp only [List.length_append, List.length_cons]
    have h3 : (if f = true then ([] : List UInt8) else [44]).length ≤ 1 := by split <;> simp
    have h5 : (ks.headD []).length + (ks.tail.map List.length).sum = (ks.map List.length).sum := by cases ks <;> simp
    omega
end
end Go.Proofs.YtkbopeoaoakfnaaDoor
