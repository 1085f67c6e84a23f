/- The texts Args of this work, merged by wip/merge.py. No conditions. -/
import Derived.Test.YtnkcnnmhgomphaaDoorQW
import Derived.Test.YtnkcnnmhgomphaaDoorQA
import Derived.OpenShut
import Derived.ProofKit
import Derived.SizedLaws
import Derived.Deep.Slices
namespace Go.Proofs.YtnkcnnmhgomphaaDoor
open Go.RowKit Go.ChangeShapes Go.WideShapes Go.Deep
section
variable {H : Type} {enc : TypeId × Value → H} {w : World} {base : Nat} {held : Bool}
theorem cells8 : Tryd.prog.cellsOf 5 = 1 := by kernel_rfl
theorem cellsB : Tryd.prog.cellsOf 48 = 1 := by kernel_rfl
theorem bytes8 : Tryd.prog.bytesOf 5 = 1 := by kernel_rfl
theorem bytesB : Tryd.prog.bytesOf 48 = 24 := by kernel_rfl

theorem bvs_of_ints (zs : List Int) (h : ∀ n ∈ zs, (Lit.int .u8 n).wf = true) : bvs (zs.map fun n => UInt8.ofNat n.toNat) = zs.map (Value.int .u8) := by
  simp only [bvs, List.map_map]
  apply List.map_congr_left
  intro n hn
  have := bounds_u8 (h n hn)
  simp only [Function.comp, bv]
  congr 1
  rw [UInt8.toNat_ofNat']
  omega

theorem reach_eq : reachBytes = 140737488351232 := rfl
/-- What a walk is told of an argument: a []byte; a [][]byte; a string; a uint64. -/
def ArgB (w : World) (v : Value) (l : List UInt8) : Prop := ∃ A c, v = .slice A l.length c ∧ l.length ≤ c ∧ Reads w w.heap.size 1 A l.length (bvs l) ∧ l.length ≤ reachBytes
def ArgL (w : World) (v : Value) (ls : List (List UInt8)) : Prop := ∃ A c, v = .slice A ls.length c ∧ ls.length ≤ c ∧ Lists w w.heap.size A ls ∧ ls.length * 24 ≤ reachBytes ∧ ∀ l ∈ ls, l.length ≤ reachBytes
def ArgS (v : Value) (s : ByteArray) : Prop := v = .string s ∧ s.size ≤ reachBytes
def ArgU (v : Value) (n : Nat) : Prop := v = .int .u64 (n : Int) ∧ n < 18446744073709551616

theorem open_bytes {fuel : Nat} {cs : List Value} {x : DataW H × List MemPlace} (h : DataW.trod enc Tryd.prog w base (fun _ => true) held fuel 48 cs = some x) :
    ∃ A c l, cs = [.slice A l.length c] ∧ l.length ≤ c ∧ Reads w w.heap.size 1 A l.length (bvs l) ∧ ∀ R, (x.1.weights Tryd.prog 48).all (· ≤ R) = true → l.length ≤ R := by
  rcases open_ints Tryd.underlying48 Tryd.underlying5 cells8 h with ⟨hcs, hx⟩ | ⟨a, len, cap, zs, hcs, _, hl, hm, hz, hx, hcell, hwz⟩
  · exact ⟨none, 0, [], hcs, Nat.le_refl _, Reads.none_, fun R _ => Nat.zero_le _⟩
  · simp only [if_true] at hz
    have hlen : ((zs.take len).map fun n => UInt8.ofNat n.toNat).length = len := by simp; omega
    refine ⟨some a, cap, (zs.take len).map fun n => UInt8.ofNat n.toNat, by rw [hlen]; exact hcs, by rw [hlen]; exact hl, ?_, ?_⟩
    · rw [bvs_of_ints _ (fun n hn => hwz n (List.mem_of_mem_take hn)), hlen]
      refine ⟨by simp; omega, fun h0 => ⟨a, rfl, ?_, fun j u hu => ?_⟩⟩
      · have h1 := World.block_lt_of_cell? w _ (hcell 0 (by omega))
        rwa [block_of_add] at h1
      · have hj : j < len := by
          have := (List.getElem?_eq_some_iff.1 hu).1
          simp at this; omega
        rw [hcell j (by omega)]
        simp [hj, List.getElem?_eq_getElem (show j < zs.length by omega)] at hu
        simp [List.getElem?_eq_getElem (show j < zs.length by omega), hu]
    · intro R hR
      rw [hlen]
      rw [hx] at hR
      have := List.all_eq_true.1 hR (zs.length * 1) (by simp [DataW.weights, Tryd.underlying48, bytes8, lits]; omega)
      simp at this; omega

theorem open_lists {fuel : Nat} {cs : List Value} {x : DataW H × List MemPlace} (h : DataW.trod enc Tryd.prog w base (fun _ => true) held fuel 46 cs = some x) :
    ∃ A c ls, cs = [.slice A ls.length c] ∧ ls.length ≤ c ∧ Lists w w.heap.size A ls ∧ ∀ R, (x.1.weights Tryd.prog 46).all (· ≤ R) = true → ls.length * 24 ≤ R ∧ ∀ l ∈ ls, l.length ≤ R := by
  rcases open_slice1 Tryd.underlying46 cellsB h with ⟨hcs, hx⟩ | ⟨a, len, cap, m, n, V, D, Pl, hcs, _, hl, hm, hmm, hx, hi⟩
  · exact ⟨none, 0, [], hcs, Nat.le_refl _, ⟨[], Reads.none_, fun i hi => by simp at hi⟩, fun R _ => ⟨by simp, fun l hl => by cases hl⟩⟩
  · simp only [if_true] at hmm
    have hmm' := hmm.symm
    subst hmm'
    have each : ∀ r, r < cap → ∃ y : Option Addr × Nat × List UInt8, V r = .slice y.1 y.2.2.length y.2.1 ∧ y.2.2.length ≤ y.2.1 ∧ Reads w w.heap.size 1 y.1 y.2.2.length (bvs y.2.2) ∧ ∀ R, ((D r).weights Tryd.prog 48).all (· ≤ R) = true → y.2.2.length ≤ R := by
      intro r hr
      obtain ⟨A, c, l, h1, h2, h3, h4⟩ := open_bytes (hi r hr).2
      exact ⟨(A, c, l), by simpa using h1, h2, h3, h4⟩
    obtain ⟨y, hy⟩ := choose_lt each
    have hlen : ((List.range len).map fun i => (y i).2.2).length = len := by simp
    refine ⟨some a, cap, (List.range len).map fun i => (y i).2.2, by rw [hlen]; exact hcs, by rw [hlen]; exact hl, ⟨(List.range len).map V, ?_, ?_⟩, ?_⟩
    · rw [hlen]
      refine ⟨by simp, fun h0 => ⟨a, rfl, ?_, fun j u hu => ?_⟩⟩
      · have h1 := World.block_lt_of_cell? w _ (hi 0 (by omega)).1
        rwa [block_of_add] at h1
      · have hj : j < len := by
          have := (List.getElem?_eq_some_iff.1 hu).1
          simp at this; omega
        rw [(hi j (by omega)).1]
        simp [hj] at hu
        rw [hu]
    · intro i hil
      have hj : i < len := by simpa using hil
      obtain ⟨h1, h2, h3, _⟩ := hy i (by omega)
      refine ⟨(y i).1, (y i).2.1, ?_, ?_, ?_⟩
      · simp [hj, h1]
      · simpa using h2
      · simpa using h3
    · intro R hR
      rw [hlen]
      rw [hx] at hR
      have hR' := List.all_eq_true.1 hR
      refine ⟨?_, fun l hl' => ?_⟩
      · have := hR' (cap * 24) (by simp [DataW.weights, Tryd.underlying46, bytesB]; omega)
        simp at this; omega
      · obtain ⟨i, hil, rfl⟩ := List.mem_map.1 hl'
        have hj : i < len := by simpa using hil
        refine (hy i (by omega)).2.2.2 R (List.all_eq_true.2 fun m hm' => hR' m ?_)
        simp only [DataW.weights, Tryd.underlying46]
        refine List.mem_cons_of_mem _ (List.mem_append.2 (.inl ?_))
        have : ∀ (ds : List (DataW H)) (d : DataW H), d ∈ ds → m ∈ d.weights Tryd.prog 48 → m ∈ DataW.weightsAll Tryd.prog 48 ds := by
          intro ds
          induction ds with
          | nil => intro d hd; cases hd
          | cons e es ih =>
            intro d hd hm
            simp only [DataW.weightsAll]
            rcases List.mem_cons.1 hd with rfl | hd
            · exact List.mem_append.2 (.inl hm)
            · exact List.mem_append.2 (.inr (ih d hd hm))
        exact this _ (D i) (List.mem_map.2 ⟨i, by simpa using hj, rfl⟩) hm'

variable {r : Reach} {b0 : Nat} {v : Value} {d : DataW H} {p : List MemPlace}
set_option maxRecDepth 100000 in
theorem arg_bytes (hv : Value.okWide Tryd.prog w r b0 48 v) (h : DataW.Trod enc Tryd.prog w base (fun _ => true) held 48 v d p) (hs : (d.weights Tryd.prog 48).all (· ≤ reachBytes) = true) : ∃ l, ArgB w v l := by
  obtain ⟨fuel, hf⟩ := h
  obtain ⟨A, c, l, hcs, hle, hr, hR⟩ := open_bytes hf
  obtain ⟨A', n', c', rfl⟩ := okWide_slice Tryd.underlying48 hv
  have hcs' : [Value.slice A' n' c'] = [Value.slice A l.length c] := hcs
  simp only [List.cons.injEq, Value.slice.injEq, and_true] at hcs'
  obtain ⟨rfl, rfl, rfl⟩ := hcs'
  exact ⟨l, _, _, rfl, hle, hr, hR _ hs⟩
set_option maxRecDepth 100000 in
theorem arg_lists (hv : Value.okWide Tryd.prog w r b0 46 v) (h : DataW.Trod enc Tryd.prog w base (fun _ => true) held 46 v d p) (hs : (d.weights Tryd.prog 46).all (· ≤ reachBytes) = true) : ∃ ls, ArgL w v ls := by
  obtain ⟨fuel, hf⟩ := h
  obtain ⟨A, c, l, hcs, hle, hr, hR⟩ := open_lists hf
  obtain ⟨A', n', c', rfl⟩ := okWide_slice Tryd.underlying46 hv
  have hcs' : [Value.slice A' n' c'] = [Value.slice A l.length c] := hcs
  simp only [List.cons.injEq, Value.slice.injEq, and_true] at hcs'
  obtain ⟨rfl, rfl, rfl⟩ := hcs'
  exact ⟨l, _, _, rfl, hle, hr, (hR _ hs).1, (hR _ hs).2⟩
set_option maxRecDepth 100000 in
theorem arg_string (hv : Value.okWide Tryd.prog w r b0 9 v) (h : DataW.Trod enc Tryd.prog w base (fun _ => true) held 9 v d p) (_hs : (d.weights Tryd.prog 9).all (· ≤ reachBytes) = true) : ∃ s, ArgS v s := by
  obtain ⟨s, rfl, rfl, rfl, hw⟩ := Go.ChangeMaps.open_string Tryd.underlying9 hv h
  refine ⟨s, rfl, ?_⟩
  have h1 : decide (s.data.toList.length ≤ reachBytes) = true := List.all_eq_true.1 _hs s.data.toList.length (by unfold DataW.weights; exact List.mem_cons_self)
  have h2 : s.data.toList.length = s.size := Array.length_toList
  rw [← h2]
  exact of_decide_eq_true h1
set_option maxRecDepth 100000 in
theorem arg_u64 (hv : Value.okWide Tryd.prog w r b0 60 v) (h : DataW.Trod enc Tryd.prog w base (fun _ => true) held 60 v d p) (_hs : (d.weights Tryd.prog 60).all (· ≤ reachBytes) = true) : ∃ n, ArgU v n := by
  obtain ⟨x, rfl, rfl, rfl, wx⟩ := open_int Tryd.underlying60 hv h
  have := bounds_u64 wx
  exact ⟨x.toNat, by rw [Int.toNat_of_nonneg this.1], by omega⟩
end
end Go.Proofs.YtnkcnnmhgomphaaDoor
