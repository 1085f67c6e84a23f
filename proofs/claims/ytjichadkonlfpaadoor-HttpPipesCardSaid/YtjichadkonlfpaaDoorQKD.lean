/- The texts K8 ArgMades K9 of this work, merged by wip/merge.py. No conditions. -/
import Derived.Test.YtjichadkonlfpaaDoorQKB
import Derived.Test.YtjichadkonlfpaaDoorQKC
import Derived.Test.YtjichadkonlfpaaDoorQHE
import Derived.Test.YtjichadkonlfpaaDoorQKA
import Derived.Deep.MidRow
namespace Go.Proofs.YtjichadkonlfpaaDoor
open Go.RowKit
def MadeV.val (m : MadeV) (A : Option Addr) (c : Nat) : Value := .agg #[.int .u16 (m.path : Int), .slice A m.body.length c, .int .u8 (m.ch.toNat : Int), .bool m.chd, .bool m.post]
theorem wire_any (m : MadeV) (A : Option Addr) (c : Nat) (w : World) (hp : m.path < 65536) (hr : Reads w w.heap.size 1 A m.body.length (bvs m.body)) (hcap : m.body.length ≤ c) (hl : m.body.length ≤ 140737488351232) :
    Calls Tryd.prog 8 #[m.val A c] w (RPost (wireP m) w) := by
  unfold MadeV.val
  cases hpost : m.post <;> cases hchd : m.chd <;> rcases Nat.lt_or_ge 4096 m.body.length with hbig | hbig
  · exact wireN011 m A c w hp hr hcap hl hpost hchd hbig
  · rcases Nat.eq_zero_or_pos m.body.length with hz | hz
    · exact wireN000z m A c w hp hr hcap hl hpost hchd hbig hz
    · exact wireN001p m A c w hp hr hcap hl hpost hchd hbig hz
  · exact wireC01 m A c w hp hr hcap hl hpost hchd hbig
  · exact wireC00 m A c w hp hr hcap hl hpost hchd hbig
  · exact wireN111 m A c w hp hr hcap hl hpost hchd hbig
  · rcases Nat.eq_zero_or_pos m.body.length with hz | hz
    · exact wireN101z m A c w hp hr hcap hl hpost hchd hbig hz
    · exact wireN101p m A c w hp hr hcap hl hpost hchd hbig hz
  · exact wireC11 m A c w hp hr hcap hl hpost hchd hbig
  · exact wireC10 m A c w hp hr hcap hl hpost hchd hbig
theorem hex3_len (n : Nat) : (hex3 n).length = 3 := rfl
theorem wireP_len (m : MadeV) (hp : m.path < 65536) : (wireP m).length ≤ 40000 := by
  have h1 := dec_len 4 m.path (by omega)
  have hb : m.bd.length ≤ 4096 := by unfold MadeV.bd; rw [List.length_take]; omega
  have h2 := dec_len 4 m.bd.length (by omega)
  have hm := methL_len m.post
  have h3 := chunks_len (1 + m.ch.toNat) (by omega) m.bd.length m.bd
  unfold wireP headL
  have ht : teL.length = 30 := by decide
  have hh : hostL.length = 20 := by decide
  have hc : clL.length = 16 := by decide
  split
  · simp only [List.length_append, List.length_cons, List.length_nil]
    omega
  · split <;> simp only [List.length_append, List.length_cons, List.length_nil] <;> omega
end Go.Proofs.YtjichadkonlfpaaDoor

namespace Go.Proofs.YtjichadkonlfpaaDoor
open Go.RowKit Go.ChangeShapes Go.WideShapes Go.Deep
instance : Inhabited MadeV := ⟨⟨0, [], 0, false, false⟩⟩
def MadeV.cs (m : MadeV) (A : Option Addr) (c : Nat) : List Value := [.int .u16 (m.path : Int), .slice A m.body.length c, .int .u8 (m.ch.toNat : Int), .bool m.chd, .bool m.post]
abbrev MadeR := MadeV × Option Addr × Nat
/-- Row i is there. -/
def MadeAt (w : World) (B : Nat) (A : Option Addr) (i : Nat) (x : MadeR) : Prop :=
  (∃ b off, A = some ⟨b, off, none⟩ ∧ b < B ∧ w.rangeAt b (off + i * 5) (x.1.cs x.2.1 x.2.2)) ∧ x.1.path < 65536 ∧ x.1.body.length ≤ x.2.2 ∧ x.1.body.length ≤ 140737488351232 ∧ Reads w B 1 x.2.1 x.1.body.length (bvs x.1.body)
def ArgMs (w : World) (v : Value) (l : List MadeR) : Prop := ∃ A c, v = .slice A l.length c ∧ l.length ≤ c ∧ l.length ≤ 140737488351232 ∧ ∀ i x, l[i]? = some x → MadeAt w w.heap.size A i x
section
variable {H : Type} {enc : TypeId × Value → H} {w : World} {base : Nat} {held : Bool}
variable {r : Reach} {b0 : Nat} {v : Value} {d : DataW H} {p : List MemPlace}
theorem cellsMade : Tryd.prog.cellsOf 27 = 5 := by kernel_rfl
theorem bytesMade : Tryd.prog.bytesOf 27 = 40 := by kernel_rfl
theorem cellsU16m : Tryd.prog.cellsOf 25 = 1 := by kernel_rfl
theorem cellsU8m : Tryd.prog.cellsOf 5 = 1 := by kernel_rfl
theorem cellsBm : Tryd.prog.cellsOf 24 = 1 := by kernel_rfl
theorem cellsBoolm : Tryd.prog.cellsOf 4 = 1 := by kernel_rfl
theorem mem_weightsAll {t : TypeId} {m : Nat} : ∀ (ds : List (DataW H)) (d : DataW H), d ∈ ds → m ∈ d.weights Tryd.prog t → m ∈ DataW.weightsAll Tryd.prog t ds := by
  intro ds
  induction ds with
  | nil => intro d hd; cases hd
  | cons e es ih =>
    intro d hd hm
    simp only [DataW.weightsAll]
    rcases List.mem_cons.1 hd with rfl | hd
    · exact List.mem_append.2 (.inl hm)
    · exact List.mem_append.2 (.inr (ih d hd hm))
set_option maxRecDepth 100000 in
theorem arg_mades (hv : Value.okWide Tryd.prog w r b0 22 v) (h : DataW.Trod enc Tryd.prog w base (fun _ => true) held 22 v d p) (hs : (d.weights Tryd.prog 22).all (· ≤ reachBytes) = true) : ∃ l, ArgMs w v l := by
  obtain ⟨fuel, hf⟩ := h
  obtain ⟨A', n', c', rfl⟩ := okWide_slice Tryd.underlying22 hv
  rcases open_slice Tryd.underlying22 hf with ⟨hcs, _⟩ | ⟨a, len, cap, m, n, D, Pl, hcs, _, hl, hm, hmm, hx, hi⟩
  · have hcs' : [Value.slice A' n' c'] = [Value.slice none 0 0] := hcs
    simp only [List.cons.injEq, Value.slice.injEq, and_true] at hcs'
    obtain ⟨rfl, rfl, rfl⟩ := hcs'
    exact ⟨[], none, 0, rfl, by simp, by simp, fun i q hq => by simp at hq⟩
  · have hcs' : [Value.slice A' n' c'] = [Value.slice (some a) len cap] := hcs
    simp only [List.cons.injEq, Value.slice.injEq, and_true] at hcs'
    obtain ⟨rfl, rfl, rfl⟩ := hcs'
    simp only [if_true] at hmm
    have hx' := congrArg (·.1) hx
    simp only at hx'
    rw [hx'] at hs
    have hall := List.all_eq_true.1 hs
    have hbig : n' ≤ 140737488351232 := by
      have h1 := of_decide_eq_true (hall (m * 40) (by unfold DataW.weights; simp only [Tryd.underlying22]; exact List.mem_cons.2 (.inl (by simp [bytesMade]; omega))))
      have := reach_eq
      unfold reachBytes at h1
      omega
    have each : ∀ i, i < n' → ∃ q : MadeR, MadeAt w w.heap.size (some a) i q := by
      intro i hin
      obtain ⟨cs', h1, h2⟩ := hi i (by omega)
      rw [cellsMade] at h1
      obtain ⟨_, hlen, hcell⟩ := World.cells?_some h1
      obtain ⟨xs, k, hk, hxy, _, hxl, hfl⟩ := DataW.trod_struct Tryd.underlying27 h2
      match xs, hxl, cs', hlen with
      | [y0, y1, y2, y3, y4], _, [v0, v1, v2, v3, v4], _ =>
        have g0 := hfl 0 _ rfl
        have g1 := hfl 1 _ rfl
        have g2 := hfl 2 _ rfl
        have g3 := hfl 3 _ rfl
        have g4 := hfl 4 _ rfl
        simp [cellsU16m, cellsU8m, cellsBm, cellsBoolm] at g0 g1 g2 g3 g4
        have e0 := hcell 0 (by omega)
        have e1 := hcell 1 (by omega)
        have e2 := hcell 2 (by omega)
        have e3 := hcell 3 (by omega)
        have e4 := hcell 4 (by omega)
        rw [Go.Deep.add_add] at e0 e1 e2 e3 e4
        obtain ⟨z0, f0, _, w0⟩ := DataW.trod_int Tryd.underlying25 g0
        obtain ⟨A3, c3, l3, f1, hc3, r3, hR⟩ := open_bytes g1
        obtain ⟨z2, f2, _, w2⟩ := DataW.trod_int Tryd.underlying5 g2
        obtain ⟨b3, f3, _⟩ := DataW.trod_bool Tryd.underlying4 g3
        obtain ⟨b4, f4, _⟩ := DataW.trod_bool Tryd.underlying4 g4
        have hl3 : l3.length ≤ reachBytes := by
          refine hR _ (List.all_eq_true.2 fun x hx => hall x ?_)
          have hd : D i = .agg [y0.1, y1.1, y2.1, y3.1, y4.1] := by
            have := congrArg (·.1) hxy
            simpa using this
          unfold DataW.weights
          simp only [Tryd.underlying22]
          refine List.mem_cons_of_mem _ (List.mem_append.2 (.inl (mem_weightsAll _ (D i) ?_ ?_)))
          · exact List.mem_map.2 ⟨i, by simpa using hin, rfl⟩
          · rw [hd]
            unfold DataW.weights
            simp only [Tryd.underlying27]
            show x ∈ DataW.weightsEach Tryd.prog [25, 24, 5, 4, 4] [y0.1, y1.1, y2.1, y3.1, y4.1]
            unfold DataW.weightsEach
            refine List.mem_append.2 (.inr ?_)
            unfold DataW.weightsEach
            exact List.mem_append.2 (.inl hx)
        obtain ⟨b, off, spot⟩ := a
        have hs : spot = none := by
          obtain ⟨cs0, k1, _⟩ := hi 0 (by omega)
          rw [cellsMade] at k1
          obtain ⟨_, hlen0, hcell0⟩ := World.cells?_some k1
          have k2 := hcell0 0 (by omega)
          rw [Go.Deep.add_add] at k2
          have k3 : w.cell? ((⟨b, off, spot⟩ : Addr).add 0) = some (cs0[0]'(by omega)) := by simpa [List.getElem?_eq_getElem (show 0 < cs0.length by omega)] using k2
          simpa [Addr.add] using World.cell?_spot k3
        subst hs
        simp only [List.cons.injEq, and_true] at f0 f1 f2 f3 f4
        subst f0 f1 f2 f3 f4
        rw [add_none] at e0 e1 e2 e3 e4
        have hz0 := bounds_u16 w0
        have hz2 := bounds_u8 w2
        have hu : ((UInt8.ofNat z2.toNat).toNat : Int) = z2 := by rw [UInt8.toNat_ofNat']; omega
        have hp : (z0.toNat : Int) = z0 := by omega
        refine ⟨(⟨z0.toNat, l3, UInt8.ofNat z2.toNat, b3, b4⟩, A3, c3), ⟨b, off, rfl, World.block_lt_of_cell? w _ e0, ?_⟩, by show z0.toNat < _; omega, hc3, hl3, r3⟩
        intro j u hj
        simp only [MadeV.cs, hu, hp] at hj
        match j with
        | 0 => rw [← hj]; exact e0
        | 1 => rw [← hj, Nat.add_assoc]; exact e1
        | 2 => rw [← hj, Nat.add_assoc]; exact e2
        | 3 => rw [← hj, Nat.add_assoc]; exact e3
        | 4 => rw [← hj, Nat.add_assoc]; exact e4
        | j + 5 => simp at hj
    obtain ⟨q, hq⟩ := choose_lt each
    have hlen : ((List.range n').map q).length = n' := by simp
    refine ⟨(List.range n').map q, some a, c', by rw [hlen], by rw [hlen]; exact hl, by rw [hlen]; exact hbig, fun i y hy => ?_⟩
    have hin : i < n' := by
      have := (List.getElem?_eq_some_iff.1 hy).1
      rwa [hlen] at this
    have : y = q i := by simp [hin] at hy; exact hy.symm
    subst this
    exact hq i hin
end
end Go.Proofs.YtjichadkonlfpaaDoor

namespace Go.Proofs.YtjichadkonlfpaaDoor
open Go.RowKit
def wires (ms : List MadeR) : List UInt8 := ms.flatMap fun x => wireP x.1
def MadeV.target (m : MadeV) : List UInt8 := [47] ++ Lib.decDigits m.path
theorem wires_len : ∀ (ms : List MadeR), (∀ x ∈ ms, x.1.path < 65536) → (wires ms).length ≤ 40000 * ms.length
  | [], _ => by simp [wires]
  | x :: ms, h => by
    have h1 := wireP_len x.1 (h x (by simp))
    have h2 := wires_len ms (fun y hy => h y (by simp [hy]))
    show (wireP x.1 ++ wires ms).length ≤ _
    rw [List.length_append, List.length_cons]
    omega
theorem wires_take (ms : List MadeR) (k : Nat) (h : k < ms.length) : wires (ms.take (k + 1)) = wires (ms.take k) ++ wireP ms[k].1 := by
  unfold wires
  rw [List.take_succ_eq_append_getElem h, List.flatMap_append]
  simp
theorem feed_mades : ∀ (ms : List MadeR), (∀ x ∈ ms, x.1.path < 65536) → ∃ rs : List Req, feedP (zeroP false) (wires ms) = (zeroP false, rs, 0) ∧ rs.length = ms.length ∧ ∀ (i : Nat) (hi : i < ms.length), ∃ hs, rs[i]? = some ⟨methL ms[i].1.post, ms[i].1.target, hs, ms[i].1.bd, false⟩
  | [], _ => ⟨[], rfl, rfl, fun i hi => by simp at hi⟩
  | x :: ms, h => by
    obtain ⟨rs, h1, h2, h3⟩ := feed_mades ms (fun y hy => h y (by simp [hy]))
    obtain ⟨hs, h4⟩ := feed_made x.1 (h x (by simp)) (wires ms)
    rw [h1] at h4
    refine ⟨_, h4, by simp [h2], fun i hi => ?_⟩
    match i with
    | 0 => exact ⟨hs, rfl⟩
    | i + 1 =>
      obtain ⟨hs', h5⟩ := h3 i (by simpa using hi)
      exact ⟨hs', h5⟩
theorem MadeAt.below {w w' : World} {B : Nat} {A : Option Addr} {i : Nat} {x : MadeR} (h : MadeAt w B A i x) (hb : Below B w w') : MadeAt w' B A i x := by
  obtain ⟨⟨b, off, h1, h2, h3⟩, h4, h5, h6, h7⟩ := h
  exact ⟨⟨b, off, h1, h2, fun j u hu => (hb.cell (p := ⟨b, off + i * 5 + j, none⟩) h2).trans (h3 j u hu)⟩, h4, h5, h6, h7.below hb⟩
end Go.Proofs.YtjichadkonlfpaaDoor
