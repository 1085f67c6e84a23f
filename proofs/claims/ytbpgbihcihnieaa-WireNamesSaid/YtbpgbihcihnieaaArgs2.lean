/- Arguments opened: a [][32]byte. No conditions. -/
import Derived.Test.YtbpgbihcihnieaaArgs
import Derived.Test.YtbpgbihcihnieaaW13
import Derived.ChangeArms
namespace Go.Proofs.Ytbpgbihcihnieaa
open Go.RowKit Go.ChangeShapes Go.WideShapes Go.Deep
section
variable {H : Type} {enc : TypeId × Value → H} {w : World} {base : Nat} {held : Bool}
theorem cellsH : Try.prog.cellsOf 44 = 32 := by kernel_rfl
theorem bytesH : Try.prog.bytesOf 44 = 32 := by kernel_rfl
def ArgH (w : World) (v : Value) (hs : List (List UInt8)) : Prop := ∃ A c, v = .slice A hs.length c ∧ hs.length ≤ c ∧ Hsh w w.heap.size A hs ∧ hs.length * 32 ≤ reachBytes

theorem open_hash {fuel : Nat} {cs : List Value} {x : DataW H × List MemPlace} (h : DataW.trod enc Try.prog w base (fun _ => true) held fuel 44 cs = some x) : ∃ l : List UInt8, cs = bvs l ∧ l.length = 32 := by
  obtain ⟨xs, m, _, _, hl, hx, hi⟩ := DataW.trod_array (n := 32) (e := 5) Try.underlying44 h
  rw [cellsH] at hl
  rw [cells8] at hi
  have each : ∀ i, i < 32 → ∃ b : UInt8, cs[i]? = some (bv b) := by
    intro i hi'
    have h1 := hi i hi'
    rw [List.getElem?_eq_getElem (show i < xs.length by omega)] at h1
    obtain ⟨n, hn, _, hw⟩ := DataW.trod_int Try.underlying5 h1
    have hb := bounds_u8 hw
    refine ⟨UInt8.ofNat n.toNat, ?_⟩
    have h2 : (cs.drop (i * 1)).take 1 = [.int .u8 n] := hn
    have h3 := congrArg (fun l : List Value => l[0]?) h2
    simp at h3
    rw [h3, bv, UInt8.toNat_ofNat']
    congr 2
    omega
  obtain ⟨f, hf⟩ := choose_lt each
  refine ⟨(List.range 32).map f, ?_, by simp⟩
  apply List.ext_getElem?
  intro i
  by_cases hi' : i < 32
  · rw [hf i hi']; simp [bvs, hi']
  · rw [List.getElem?_eq_none (by omega), List.getElem?_eq_none (by simp [bvs]; omega)]

theorem open_hashes {fuel : Nat} {cs : List Value} {x : DataW H × List MemPlace} (h : DataW.trod enc Try.prog w base (fun _ => true) held fuel 30 cs = some x) :
    ∃ A c hs, cs = [.slice A hs.length c] ∧ hs.length ≤ c ∧ Hsh w w.heap.size A hs ∧ ∀ R, (x.1.weights Try.prog 30).all (· ≤ R) = true → hs.length * 32 ≤ R := by
  rcases open_slice Try.underlying30 h with ⟨hcs, hx⟩ | ⟨a, len, cap, m, n, D, Pl, hcs, _, hl, hm, hmm, hx, hi⟩
  · exact ⟨none, 0, [], hcs, Nat.le_refl _, fun h => by simp at h, fun R _ => by simp⟩
  · simp only [if_true] at hmm
    have hmm' := hmm.symm
    subst hmm'
    rw [cellsH] at hi
    have each : ∀ r, r < cap → ∃ l : List UInt8, l.length = 32 ∧ ∀ j v, (bvs l)[j]? = some v → w.cell? (a.add (r * 32 + j)) = some v := by
      intro r hr
      obtain ⟨cs', h1, h2⟩ := hi r hr
      obtain ⟨_, hlen, hc⟩ := World.cells?_some h1
      obtain ⟨l, rfl, hl⟩ := open_hash h2
      refine ⟨l, hl, fun j v hv => ?_⟩
      have hj := (List.getElem?_eq_some_iff.1 hv).1
      rw [← add_of_add, hc j (by omega)]
      exact hv
    obtain ⟨f, hf⟩ := choose_lt each
    refine ⟨some a, cap, (List.range len).map f, by simpa using hcs, by simpa using hl, fun h0 => ?_, fun R hR => ?_⟩
    · have h0' : 0 < len := by simpa using h0
      obtain ⟨h1, h2⟩ := hf 0 (by omega)
      have hcell := h2 0 ((bvs (f 0))[0]'(by rw [bvs_length]; omega)) (List.getElem?_eq_getElem _)
      obtain ⟨b, off, spot⟩ := a
      have hspot : spot = none := by
        have h5 : w.cell? ⟨b, off, spot⟩ = some ((bvs (f 0))[0]'(by rw [bvs_length]; omega)) := by simpa [Addr.add] using hcell
        simpa using World.cell?_spot h5
      subst hspot
      refine ⟨b, off, rfl, ?_, fun i hi' => ?_⟩
      · have h1 := World.block_lt_of_cell? w _ hcell
        rwa [block_of_add] at h1
      · have hil : i < len := by simpa using hi'
        obtain ⟨h3, h4⟩ := hf i (by omega)
        simp only [List.getElem_map, List.getElem_range]
        refine ⟨h3, fun j v hv => ?_⟩
        have := h4 j v hv
        rwa [add_none, ← Nat.add_assoc] at this
    · rw [hx] at hR
      have := List.all_eq_true.1 hR (cap * 32) (by simp [DataW.weights, Try.underlying30, bytesH]; omega)
      simp at this ⊢; omega
variable {r : Reach} {b0 : Nat} {v : Value} {d : DataW H} {p : List MemPlace}
set_option maxRecDepth 100000 in
theorem arg_hashes (hv : Value.okWide Try.prog w r b0 30 v) (h : DataW.Trod enc Try.prog w base (fun _ => true) held 30 v d p) (hs : (d.weights Try.prog 30).all (· ≤ reachBytes) = true) : ∃ ls, ArgH w v ls := by
  obtain ⟨fuel, hf⟩ := h
  obtain ⟨A, c, l, hcs, hle, hr, hR⟩ := open_hashes hf
  obtain ⟨A', n', c', rfl⟩ := okWide_slice Try.underlying30 hv
  have hcs' : [Value.slice A' n' c'] = [Value.slice A l.length c] := hcs
  simp only [List.cons.injEq, Value.slice.injEq, and_true] at hcs'
  obtain ⟨rfl, rfl, rfl⟩ := hcs'
  exact ⟨l, _, _, rfl, hle, hr, hR _ hs⟩
end
end Go.Proofs.Ytbpgbihcihnieaa
