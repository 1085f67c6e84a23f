/- The texts M6a M6b M6c M6d of this work, merged by wip/merge.py. No conditions. -/
import Derived.Test.YtbpgbihcihnieaaQM5
namespace Go.Proofs.Ytbpgbihcihnieaa
open Go.RowKit
/-- What the round of each holds, while devices are read into a lookup. -/
structure HI (x : List UInt8) (ls : List (List UInt8)) (p lo s : Nat) (C : Array Value) (w : World) (k : Nat) (w' : World) : Prop where
  fld : Fld w' p lo ls false
  frm : Frm [p, s] w w'
  row : ∃ v, w'.heap[s]? = some (.cells (C.setIfInBounds 165 v) 57 (0, 0)) ∧ w'.ownsRow w.heap.size 44 32 v k (bvs (x.take (k * 32)))
theorem HI.step {x : List UInt8} {ls : List (List UInt8)} {p lo s : Nat} {C : Array Value} {w : World} {k : Nat} {w' : World} (h : HI x ls p lo s C w k w') (hC : 165 < C.size) (hps : s < lo) (hlo : lo ≤ p) (hp : p < w.heap.size) (hx : x.length ≤ 1048576) (A : Option Addr) (c : Nat) (hk : k < x.length / 32) (hc : 32 ≤ c) (hr : RdI lo p w' A (bvs ((x.drop (k * 32)).take 32))) :
    Calls Try.prog 63 #[.slice A 32 c, .pointer (some ⟨s, 0, none⟩)] w' (fun e w'' => e = .returned (.tuple #[]) ∧ HI x ls p lo s C w (k + 1) w'') := by
  obtain ⟨v, h1, h2⟩ := h.row
  have hpl := h.fld.lt
  refine (look1_any A c lo p s w.heap.size k _ _ v _ _ w' (by rw [List.length_take, List.length_drop]; omega) hr (Nat.le_of_lt hpl) hc h1 (by simp [hC]) h2 (by omega) h.frm.size (by omega)).mono ?_
  rintro e w'' ⟨rfl, v', h3, h4, h5⟩
  refine ⟨rfl, h.fld.keepB h5 hp (by simp; exact .inl hps), h.frm.frb (h5.more (by simp)), v', ?_, ?_⟩
  · rw [Array.setIfInBounds_setIfInBounds] at h3
    exact h3
  · rw [take_chunk, bvs_append]
    exact h4
def EachH (x : List UInt8) (ls : List (List UInt8)) (bad : Bool) (p lo s : Nat) (C : Array Value) (w : World) (e : Ending) (w' : World) : Prop :=
  e = .returned (.tuple #[]) ∧ Fld w' p lo ls (bad || !decide (x.length % 32 = 0)) ∧ Frm [p, s] w w' ∧ ∃ v, w'.heap[s]? = some (.cells (C.setIfInBounds 165 v) 57 (0, 0)) ∧ ((bad || !decide (x.length % 32 = 0)) = false → ∃ n, w'.ownsRow w.heap.size 44 32 v n (bvs x))
theorem eachH_any (x : List UInt8) (ls : List (List UInt8)) (bad : Bool) (p lo s : Nat) (C : Array Value) (w : World) (h : Fld w p lo (x :: ls) bad) (hs : w.heap[s]? = some (.cells C 57 (0, 0))) (hC : C[165]? = some (.slice none 0 0)) (hsl : s < lo) (hx : x.length ≤ 1048576) :
    Calls Try.prog 62 #[.pointer (some ⟨p, 0, none⟩), .int .i64 32, .func (.func 63) #[] #[.pointer (some ⟨s, 0, none⟩)]] w (EachH x ls bad p lo s C w) := by
  have hlo := h.lo
  have no : ∀ e w', (bad || !decide (x.length % 32 = 0)) = true → EachNo ls p lo w e w' → EachH x ls bad p lo s C w e w' := by
    rintro e w' hb ⟨rfl, hf, hfr⟩
    refine ⟨rfl, by rw [hb]; exact hf, hfr.more (by simp), .slice none 0 0, by rw [set_same hC]; exact hfr.heap hs (by simp; omega), by rw [hb]; intro h; cases h⟩
  cases bad with
  | true => exact (each_bad1 _ 32 x ls p lo w h).mono (fun e w' hn => no e w' rfl hn)
  | false =>
    by_cases hm : x.length % 32 = 0
    · refine (each32 x ls p lo s w h hm (by omega) (fun k w' => HI x ls p lo s C w k w') (fun w' hf hfr => ⟨hf, hfr.more (by simp), .slice none 0 0, by rw [set_same hC]; exact hfr.heap hs (by simp; omega), World.ownsRow_nil _ _ _ 32⟩) (fun k w' hI => ⟨_, hI.frm, by simp; omega⟩) (fun k w' A c hk hI hc hr => hI.step (Array.getElem?_eq_some_iff.1 hC).1 hsl hlo h.lt hx A c hk hc hr)).mono ?_
      rintro e w' ⟨rfl, hI⟩
      obtain ⟨v, h1, h2⟩ := hI.row
      refine ⟨rfl, by rw [decide_eq_true hm]; exact hI.fld, hI.frm, v, h1, fun _ => ⟨x.length / 32, ?_⟩⟩
      rw [Nat.div_mul_cancel (Nat.dvd_of_mod_eq_zero hm), List.take_length] at h2
      exact h2
    · exact (each_bad2 _ 32 32 rfl (by decide) x ls p lo w h hm).mono (fun e w' hn => no e w' (by simp [hm]) hn)
/-- DecodeLookup's two lookups: the answer's place, the one under way. -/
structure LK (w v : World) (Z C : Array Value) : Prop where
  below : Below w.heap.size w v
  t2 : v.heap[w.heap.size]? = some (.cells Z 57 (0, 0))
  s : v.heap[w.heap.size + 1]? = some (.cells C 57 (0, 0))
theorem LK.start (w : World) (Z : Array Value) : LK w ((w.alloc (.cells Z 57)).alloc (.cells Z 57)) Z Z := by
  refine ⟨((Below.refl _ _).alloc (Nat.le_refl _) _).alloc (by simp) _, ?_, ?_⟩
  · rw [Below.heap_alloc _ _ _ (by simp)]; exact heap_alloc_new w _
  · have h1 := heap_alloc_new (w.alloc (.cells Z 57)) (.cells Z 57)
    rw [show (w.alloc (.cells Z 57)).heap.size = w.heap.size + 1 from by simp] at h1
    exact h1
theorem LK.frm {w v v' : World} {Z C : Array Value} {ps : List Nat} (h : LK w v Z C) (hf : Frm ps v v') (hp : ∀ q ∈ ps, w.heap.size + 2 ≤ q) : LK w v' Z C :=
  ⟨h.below.trans (hf.below h.below.size (fun q hq => by have := hp q hq; omega)), hf.heap h.t2 (fun hq => by have := hp _ hq; omega), hf.heap h.s (fun hq => by have := hp _ hq; omega)⟩
theorem LK.put {w v v' : World} {Z C C' : Array Value} {ps : List Nat} (h : LK w v Z C) (hf : Frm ps v v') (hp : ∀ q ∈ ps, w.heap.size + 1 ≤ q) (hs : v'.heap[w.heap.size + 1]? = some (.cells C' 57 (0, 0))) : LK w v' Z C' :=
  ⟨h.below.trans (hf.below h.below.size (fun q hq => by have := hp q hq; omega)), hf.heap h.t2 (fun hq => by have := hp _ hq; omega), hs⟩
theorem LK.root {w v : World} {Z : Array Value} {q r : RootV} {a : List UInt8} {n : Nat} {D F S : Value} {p p2 : List UInt8} (h : LK w v Z (lookC q a n D p F p2 S)) (hq : q.ok) (hr : r.ok) : LK w (v.setCells (w.heap.size + 1) 0 r.cs.toList) Z (lookC r a n D p F p2 S) :=
  h.put (Frm.setCells (w.heap.size + 1) r.cs.toList 0 v) (by simp) (lookC_root hq hr h.s)
theorem LK.at_ {w v : World} {Z C : Array Value} {i : Nat} {u : Value} (h : LK w v Z C) (hu : C[i]? = some u) : v.cell? ⟨w.heap.size + 1, i, none⟩ = some u ∧ v.frozen? ⟨w.heap.size + 1, i, none⟩ = false :=
  ⟨by rw [cell_of_row v _ _ _ _ _ h.s]; exact hu, frozen_row h.s i⟩
theorem LK.set {w v : World} {Z C C' : Array Value} (h : LK w v Z C) (i : Nat) (u : Value) (hC : C.setIfInBounds i u = C') : LK w (v.setCell ⟨w.heap.size + 1, i, none⟩ u) Z C' ∧ Frm [w.heap.size + 1] v (v.setCell ⟨w.heap.size + 1, i, none⟩ u) := by
  have h1 := heap_setCell_same v (w.heap.size + 1) i _ _ u h.s
  rw [hC] at h1
  exact ⟨h.put (Frm.setCell v (w.heap.size + 1) i u) (by simp) h1, Frm.setCell _ _ _ _⟩
end Go.Proofs.Ytbpgbihcihnieaa

namespace Go.Proofs.Ytbpgbihcihnieaa
open Go.RowKit
set_option maxRecDepth 100000 in
set_option maxHeartbeats 8000000 in
theorem wDL_f (A : Option Addr) (c : Nat) (b : List UInt8) (w : World) (hr : Reads w w.heap.size 1 A b.length (bvs b)) (hc : b.length ≤ c) (hm : b.length ≤ 140737488355328) (x a v0 d fp n fs m : List UInt8) (i0 i1 i2 i3 i4 i5 i6 : Bool) (hD : lookD b = none)
    (h1 : (openV b lookW 8).getD (noFields 8) = [x, a, v0, d, fp, n, fs, m] ∧ (!(openV b lookW 8).isSome) = i0) (hl : ∀ y ∈ [x, a, v0, d, fp, n, fs, m], y.length ≤ 1048576)
    (hi1 : (i0 || !(rootD x).isSome) = i1) (hi2 : (i1 || !decide (v0.length = 8)) = i2) (hi3 : (i2 || !decide (d.length % 32 = 0)) = i3) (hi4 : (i3 || !decide (fp.length = 80)) = i4) (hi5 : (i4 || !nodesOK n) = i5) (hi6 : (i5 || !decide (fs.length = 80)) = i6) (hi7 : (i6 || !nodesOK m) = true) : Calls Try.prog 35 #[.slice A b.length c] w (LDP b w) := by
  obtain ⟨Z, hZ⟩ : ∃ Z : Array Value, Z = lookZ := ⟨_, rfl⟩
  have hz := hz57
  rw [← hZ] at hz
  have HZ := Lib.hid hZ
  have HZz : Hid (Z.size = 328) := by show _ = _; rw [hZ]; exact lookC_size rootZ_ok z80_len z80_len
  have HZo : Hid ((Z.all fun x => x.oneCell') = true) := by show _ = _; rw [hZ]; exact look_one
  have W0 : Hid (LK w ((w.alloc (.cells Z 57)).alloc (.cells Z 57)) Z (lookC rootZ [] 0 (.slice none 0 0) z80 (.slice none 0 0) z80 (.slice none 0 0))) := by
    have h_ := LK.start w Z
    rw [hZ] at h_ ⊢
    exact h_
  have R0 : Hid (Reads ((w.alloc (.cells Z 57)).alloc (.cells Z 57)) ((w.alloc (.cells Z 57)).alloc (.cells Z 57)).heap.size 1 A b.length (bvs b)) := (hr.keep fun _ hp => W0.out.below.cell hp).more W0.out.below.size
  have hsz0 : ((w.alloc (.cells Z 57)).alloc (.cells Z 57)).heap.size = w.heap.size + 2 := by simp
  obtain ⟨X, hX⟩ : ∃ X : Array Value, X = (rootR x).cs := ⟨_, rfl⟩
  have HX := Lib.hid hX
  have XZ : Hid (X.size = 163) := by show _ = _; rw [hX]; exact root_size (rootR_ok x)
  have XO : Hid ((X.all fun x => x.oneCell') = true) := by show _ = _; rw [hX]; exact root_one
  have RO := Lib.hid (rootR_ok x)
  obtain ⟨nv, hnv⟩ : ∃ z : Nat, z = numV v0 := ⟨_, rfl⟩
  have HNV : Hid (numV v0 = nv) := hnv.symm
  have Hc := Lib.hid hc
  have Hm := Lib.hid hm
  have H1 := Lib.hid h1
  have XL := Lib.hid hl
  have HI1 := Lib.hid hi1
  have HI2 := Lib.hid hi2
  have HI3 := Lib.hid hi3
  have HI4 := Lib.hid hi4
  have HI5 := Lib.hid hi5
  have HI6 := Lib.hid hi6
  have HI7 := Lib.hid hi7
  have HD := Lib.hid hD
  clear hr hc hm h1 hl hi1 hi2 hi3 hi4 hi5 hi6 hi7 hX hZ hnv hD
  go_enter Try.func35, Try.ntmps35
  go_wp2_with (go_at_call 50; go_must (refine (open_any A c 8 b lookW 8 rfl (by decide) (by decide) _ R0.out Hc.out Hm.out).mono ?_; rintro e w1 ⟨p, rfl, hf, hb⟩; rw [H1.out.1, H1.out.2, hsz0] at hf; have F1 := Lib.hid hf; have W1 := Lib.hid (W0.out.frm (Frm.of_below (ps := []) hb) (by simp)); have PL := Lib.hid hf.lo; clear hf hb))
  refine AnyC.startB (fun _ => True) (by kernel_rfl) rfl ?_
  intro w2 hb2 hs2
  clear hs2
  have F2 := Lib.hid (F1.out.keep (Frm.of_below (ps := []) hb2) (by simp))
  have W2 := Lib.hid (W1.out.frm (Frm.of_below (ps := []) hb2) (by simp))
  clear hb2
  apply AnyC.take (i := 0) rfl (by kernel_rfl) rfl
  · intro w' hC K hK
    go_wp2
    exact hK
  · rfl
  apply AnyC.take (i := 2) rfl (by kernel_rfl) rfl
  · intro w' hC K hK
    go_wp2
    exact hK
  · rfl
  apply AnyC.take (i := 5) rfl (by kernel_rfl) rfl
  · intro w' hC K hK
    go_wp2
    exact hK
  · rfl
  apply AnyC.solo (i := 1) rfl (by kernel_rfl) trivial
  go_wp2_with (go_at_call 61; go_must (refine (root_any x [a, v0, d, fp, n, fs, m] i0 p (w.heap.size + 2) w2 F2.out (by have h_ := XL.out x (by simp); omega)).mono ?_; rintro e w3 ⟨rfl, hf, hfr⟩; rw [HI1.out] at hf; rw [← HX.out]; have F3 := Lib.hid hf; have W3 := Lib.hid (W2.out.frm hfr (by simp; exact PL.out)); clear hf hfr))
  refine ⟨rfl, ?_⟩
  apply AnyC.solo (i := 3) rfl (by kernel_rfl) trivial
  go_wp2_with (go_at_call 51; go_must (refine (next_any a [v0, d, fp, n, fs, m] i1 p (w.heap.size + 2) w3 F3.out).mono ?_; rintro e w4 ⟨Aa, ca, rfl, hca, hra, hf, hfr⟩; have F4 := Lib.hid hf; have W4 := Lib.hid (W3.out.frm hfr (by simp; exact PL.out)); have RA4 : Hid (RdI (w.heap.size + 2) p w4 Aa (bvs a) ∧ p ≤ w4.heap.size) := ⟨hra, Nat.le_of_lt hf.lt⟩; clear hf hfr hca hra))
  refine ⟨rfl, ?_⟩
  refine AnyC.narrow (C' := fun w' => RdI (w.heap.size + 2) p w' Aa (bvs a) ∧ p ≤ w'.heap.size) (fun _ _ => trivial) ?_
  apply AnyC.take (i := 4) rfl (by kernel_rfl) rfl
  · intro w' hC K hK
    have hs_ := run_str8 (hC.1.reads hC.2) ca
    go_wp2
    exact hK
  · rfl
  apply AnyC.solo (i := 6) rfl (by kernel_rfl) RA4.out
  go_wp2_with (go_at_call 53; go_must (refine (num_any v0 [d, fp, n, fs, m] i1 p (w.heap.size + 2) w4 F4.out (by have h_ := XL.out v0 (by simp); omega)).mono ?_; rintro e w5 ⟨rfl, hf, hfr⟩; rw [HI2.out] at hf; rw [HNV.out]; have F5 := Lib.hid hf; have W5 := Lib.hid (W4.out.frm hfr (by simp; exact PL.out)); have RA5 : Hid (RdI (w.heap.size + 2) p w5 Aa (bvs a) ∧ p ≤ w5.heap.size) := ⟨RA4.out.1.keep hfr RA4.out.2 (by simp), Nat.le_of_lt hf.lt⟩; clear hf hfr))
  refine ⟨rfl, ?_⟩
  apply AnyC.take (i := 7) rfl (by kernel_rfl) rfl
  · intro w' hC K hK
    go_wp2
    exact hK
  · rfl
  have th5 := there_row (n := 163) W5.out.s (by rw [lookC_size rootZ_ok z80_len z80_len]; decide)
  have W6 : Hid (LK w (w5.setCells (w.heap.size + 1) 0 X.toList) Z (lookC (rootR x) [] 0 (.slice none 0 0) z80 (.slice none 0 0) z80 (.slice none 0 0))) := by show LK _ _ _ _; rw [HX.out]; exact W5.out.root rootZ_ok RO.out
  have M6 : Hid (Frm [w.heap.size + 1] w5 (w5.setCells (w.heap.size + 1) 0 X.toList)) := Frm.setCells _ _ _ _
  apply AnyC.solo (i := 8) rfl (by kernel_rfl) RA5.out
  refine wpList_store_mid rfl _ _ _ rfl (w.heap.size + 1) 0 X rfl rfl (by rw [XZ.out]; with_reducible exact th5) (by rw [XZ.out]; kernel_rfl) (by exact XO.out) ?_
  go_wp2
  refine ⟨rfl, ?_⟩
  clear th5
  generalize w5.setCells (w.heap.size + 1) 0 X.toList = w6 at *
  have F6 := Lib.hid (F5.out.keep M6.out (by simp))
  have RA6 : Hid (RdI (w.heap.size + 2) p w6 Aa (bvs a) ∧ p ≤ w6.heap.size) := ⟨RA5.out.1.keep M6.out RA5.out.2 (by simp), Nat.le_of_lt F6.out.lt⟩
  apply AnyC.take (i := 9) rfl (by kernel_rfl) rfl
  · intro w' hC K hK
    go_wp2
    exact hK
  · rfl
  have c6 := W6.out.at_ (lookC_at RO.out z80_len z80_len).1
  obtain ⟨e163, f163⟩ := c6
  have SL6 := lookC_set (s := []) (s' := a) (v := 0) (v' := 0) (D := .slice none 0 0) (D' := .slice none 0 0) (F := .slice none 0 0) (F' := .slice none 0 0) (S := .slice none 0 0) (S' := .slice none 0 0) RO.out z80_len z80_len
  have W7 := Lib.hid (W6.out.set 163 (.string ⟨a.toArray⟩) SL6.1)
  apply AnyC.solo (i := 10) rfl (by kernel_rfl) RA6.out
  go_wp2
  refine ⟨rfl, ?_⟩
  clear e163 f163 SL6
  generalize w6.setCell ⟨w.heap.size + 1, 163, none⟩ (.string ⟨a.toArray⟩) = w7 at *
  have F7 := Lib.hid (F6.out.keep W7.out.2 (by simp))
  have RA7 : Hid (RdI (w.heap.size + 2) p w7 Aa (bvs a) ∧ p ≤ w7.heap.size) := ⟨RA6.out.1.keep W7.out.2 RA6.out.2 (by simp), Nat.le_of_lt F7.out.lt⟩
  apply AnyC.take (i := 11) rfl (by kernel_rfl) rfl
  · intro w' hC K hK
    go_wp2
    exact hK
  · rfl
  have c7 := W7.out.1.at_ (lookC_at RO.out z80_len z80_len).2.1
  obtain ⟨e164, f164⟩ := c7
  have SL7 := lookC_set (s := a) (s' := a) (v := 0) (v' := nv) (D := .slice none 0 0) (D' := .slice none 0 0) (F := .slice none 0 0) (F' := .slice none 0 0) (S := .slice none 0 0) (S' := .slice none 0 0) RO.out z80_len z80_len
  have W8 := Lib.hid (W7.out.1.set 164 (.int .u64 (nv : Int)) SL7.2.1)
  apply AnyC.solo (i := 12) rfl (by kernel_rfl) RA7.out
  go_wp2
  refine ⟨rfl, ?_⟩
  clear e164 f164 SL7
  generalize w7.setCell ⟨w.heap.size + 1, 164, none⟩ (.int .u64 (nv : Int)) = w8 at *
  have F8 := Lib.hid (F7.out.keep W8.out.2 (by simp))
  have RA8 : Hid (RdI (w.heap.size + 2) p w8 Aa (bvs a) ∧ p ≤ w8.heap.size) := ⟨RA7.out.1.keep W8.out.2 RA7.out.2 (by simp), Nat.le_of_lt F8.out.lt⟩
  refine AnyC.done RA8.out (by kernel_rfl) ?_
  clear RA4 RA5 RA6 RA7 RA8 F1 F2 F3 F4 F5 F6 F7 W0 W1 W2 W3 W4 W5 W6 W7 M6 R0 hsz0
  have A8 := Lib.hid (lookC_at (s := a) (v := nv) (D := .slice none 0 0) (F := .slice none 0 0) (S := .slice none 0 0) RO.out z80_len z80_len).2.2.1
  have TF0 : Hid True := trivial
  have TG0 : Hid True := trivial
  go_wp2_with (first
    | (go_at_call 62; go_must (refine (eachH_any d [fp, n, fs, m] i2 p (w.heap.size + 2) (w.heap.size + 1) _ _ F8.out W8.out.1.s A8.out (by omega) (XL.out d (by simp))).mono ?_; rintro e w9 ⟨rfl, hf, hfr, v5, hv5, hg5⟩; rw [HI3.out] at hf hg5; rw [(lookC_set (s := a) (s' := a) (v := nv) (v' := nv) (D := (.slice none 0 0)) (D' := v5) (p := z80) (F := (.slice none 0 0)) (F' := (.slice none 0 0)) (p2 := z80) (S := (.slice none 0 0)) (S' := (.slice none 0 0)) RO.out z80_len z80_len).2.2.1] at hv5; have F9 := Lib.hid hf; have W9 := Lib.hid (W8.out.1.put hfr (by simp; have h_ := PL.out; omega) hv5); have PS : Hid (p < w8.heap.size ∧ w.heap.size + 1 < w8.heap.size) := ⟨F8.out.lt, lt_of_heap W8.out.1.s⟩; have PW9 : Hid (p < w9.heap.size ∧ w.heap.size + 1 < w9.heap.size) := ⟨F9.out.lt, lt_of_heap W9.out.s⟩; clear hf hfr hv5 hg5))
    | (go_at_call 52; have hx_ := TF1; go_must (refine (fixed_any fs [m] i5 80 80 p (w.heap.size + 2) (w.heap.size + 1) 247 _ _ _ F12.out W12.out.1.s (by rw [lookC_size RO.out (put80_len (x := fp) z80_len) z80_len]; decide) (.inl (by omega))).mono ?_; rintro e w13 ⟨rfl, hf, hfr, hrow⟩; rw [HI6.out] at hf; rw [lookC_sp RO.out (put80_len (x := fp) z80_len) z80_len] at hrow; have F13 := Lib.hid hf; have W13 := Lib.hid (W12.out.1.put hfr (by simp; have h_ := PL.out; omega) hrow); have ON13 := Lib.hid (ownR_frms ON12.out hfr (by simp; have h_ := PS.out; have h2_ := PW9.out; have h3_ := PW10.out; omega)); have TF2 := hx_; clear TF1 hx_ hf hfr hrow))
    | (go_at_call 52; have hx_ := TF0; go_must (refine (fixed_any fp [n, fs, m] i3 80 80 p (w.heap.size + 2) (w.heap.size + 1) 166 _ _ w9 F9.out W9.out.s (by rw [lookC_size RO.out z80_len z80_len]; decide) (.inl (by omega))).mono ?_; rintro e w10 ⟨rfl, hf, hfr, hrow⟩; rw [HI4.out] at hf; rw [lookC_fp RO.out z80_len] at hrow; have F10 := Lib.hid hf; have W10 := Lib.hid (W9.out.put hfr (by simp; have h_ := PL.out; omega) hrow); have TF1 := hx_; clear TF0 hx_ hf hfr hrow))
    | (go_at_call 64; have hx_ := TG1; go_must (refine (nodesF_any m [] i6 p (w.heap.size + 2) w13 F13.out (XL.out m (by simp))).mono ?_; rintro e w14 ⟨Am, nm, cm, xs_2, rfl, hf, hfr, hon, hgn⟩; rw [HI7.out] at hf hgn; have PW13 : Hid (p < w13.heap.size ∧ w.heap.size + 1 < w13.heap.size) := ⟨F13.out.lt, lt_of_heap W13.out.s⟩; have F14 := Lib.hid hf; have W14 := Lib.hid (W13.out.frm hfr (by simp; exact PL.out)); obtain ⟨e327, f327⟩ := W14.out.at_ (lookC_at (s := a) (v := nv) (D := v5) (F := (.slice An nn cn)) (S := (.slice none 0 0)) RO.out (put80_len (x := fp) z80_len) (put80_len (x := fs) z80_len)).2.2.2.2; have W15 := Lib.hid (W14.out.set 327 (.slice Am nm cm) (lookC_set (s := a) (s' := a) (v := nv) (v' := nv) (D := v5) (D' := v5) (p := (put80 fp z80)) (F := (.slice An nn cn)) (F' := (.slice An nn cn)) (p2 := (put80 fs z80)) (S := (.slice none 0 0)) (S' := (.slice Am nm cm)) RO.out (put80_len (x := fp) z80_len) (put80_len (x := fs) z80_len)).2.2.2.2); have ON15 := Lib.hid (ownR_frms (ownR_frms ON13.out hfr (by simp; have h_ := PS.out; have h2_ := PW9.out; have h3_ := PW10.out; omega)) W15.out.2 (by simp; have h_ := PS.out; have h2_ := PW9.out; have h3_ := PW10.out; omega)); have OM15 := Lib.hid (ownR_frms hon W15.out.2 (by simp; have h_ := PW13.out; omega)); have F15 := Lib.hid (F14.out.keep W15.out.2 (by simp)); have GN2 := Lib.hid hgn; obtain ⟨eb, fb⟩ := F15.out.bad_at; clear TG1 hx_ hf hfr hon hgn))
    | (go_at_call 64; have hx_ := TG0; go_must (refine (nodesF_any n [fs, m] i4 p (w.heap.size + 2) w10 F10.out (XL.out n (by simp))).mono ?_; rintro e w11 ⟨An, nn, cn, xs_1, rfl, hf, hfr, hon, hgn⟩; rw [HI5.out] at hf hgn; have PW10 : Hid (p < w10.heap.size ∧ w.heap.size + 1 < w10.heap.size) := ⟨F10.out.lt, lt_of_heap W10.out.s⟩; have F11 := Lib.hid hf; have W11 := Lib.hid (W10.out.frm hfr (by simp; exact PL.out)); obtain ⟨e246, f246⟩ := W11.out.at_ (lookC_at (s := a) (v := nv) (D := v5) (F := (.slice none 0 0)) (S := (.slice none 0 0)) RO.out (put80_len (x := fp) z80_len) z80_len).2.2.2.1; have W12 := Lib.hid (W11.out.set 246 (.slice An nn cn) (lookC_set (s := a) (s' := a) (v := nv) (v' := nv) (D := v5) (D' := v5) (p := (put80 fp z80)) (F := (.slice none 0 0)) (F' := (.slice An nn cn)) (p2 := z80) (S := (.slice none 0 0)) (S' := (.slice none 0 0)) RO.out (put80_len (x := fp) z80_len) z80_len).2.2.2.1); have ON12 := Lib.hid (ownR_frms hon W12.out.2 (by simp; have h_ := PW10.out; omega)); have F12 := Lib.hid (F11.out.keep W12.out.2 (by simp)); have GN1 := Lib.hid hgn; have TG1 := hx_; clear TG0 hx_ hf hfr hon hgn))
    | (refine wpList_store_row rfl _ _ _ rfl w.heap.size Z rfl rfl 57 Z (by with_reducible exact W15.out.1.t2) (by rw [HZz.out]; kernel_rfl) (by rfl) (by exact HZo.out) ?_))
  have hld := ret57r (heap_setRow (cs := Z) W15.out.1.t2) HZz.out
  refine bodyPost_ret (v := .tuple #[.agg Z, .int .i64 2]) (by simp [results, Try.results35, asAddr, hld]) rfl (LDP.no HD.out (by rw [← HZ.out]) ?_)
  exact W15.out.1.below.trans ((Frm.setRow _ _ _).1.below W15.out.1.below.size (by simp))
end Go.Proofs.Ytbpgbihcihnieaa

namespace Go.Proofs.Ytbpgbihcihnieaa
open Go.RowKit
set_option maxRecDepth 100000 in
set_option maxHeartbeats 8000000 in
theorem wDL_ok (A : Option Addr) (c : Nat) (b : List UInt8) (w : World) (hr : Reads w w.heap.size 1 A b.length (bvs b)) (hc : b.length ≤ c) (hm : b.length ≤ 140737488355328) (x a v0 d fp n fs m : List UInt8) (r : RootV) (hr0 : rootD x = some r) (hO : openV b lookW 8 = some [x, a, v0, d, fp, n, fs, m])
    (h1 : (openV b lookW 8).getD (noFields 8) = [x, a, v0, d, fp, n, fs, m] ∧ (!(openV b lookW 8).isSome) = false) (hl : ∀ y ∈ [x, a, v0, d, fp, n, fs, m], y.length ≤ 1048576)
    (hi1 : (false || !(rootD x).isSome) = false) (hi2 : (false || !decide (v0.length = 8)) = false) (hi3 : (false || !decide (d.length % 32 = 0)) = false) (hi4 : (false || !decide (fp.length = 80)) = false) (hi5 : (false || !nodesOK n) = false) (hi6 : (false || !decide (fs.length = 80)) = false) (hi7 : (false || !nodesOK m) = false) : Calls Try.prog 35 #[.slice A b.length c] w (LDP b w) := by
  obtain ⟨Z, hZ⟩ : ∃ Z : Array Value, Z = lookZ := ⟨_, rfl⟩
  have hz := hz57
  rw [← hZ] at hz
  have HZ := Lib.hid hZ
  have HZz : Hid (Z.size = 328) := by show _ = _; rw [hZ]; exact lookC_size rootZ_ok z80_len z80_len
  have HZo : Hid ((Z.all fun x => x.oneCell') = true) := by show _ = _; rw [hZ]; exact look_one
  have W0 : Hid (LK w ((w.alloc (.cells Z 57)).alloc (.cells Z 57)) Z (lookC rootZ [] 0 (.slice none 0 0) z80 (.slice none 0 0) z80 (.slice none 0 0))) := by
    have h_ := LK.start w Z
    rw [hZ] at h_ ⊢
    exact h_
  have R0 : Hid (Reads ((w.alloc (.cells Z 57)).alloc (.cells Z 57)) ((w.alloc (.cells Z 57)).alloc (.cells Z 57)).heap.size 1 A b.length (bvs b)) := (hr.keep fun _ hp => W0.out.below.cell hp).more W0.out.below.size
  have hsz0 : ((w.alloc (.cells Z 57)).alloc (.cells Z 57)).heap.size = w.heap.size + 2 := by simp
  obtain ⟨X, hX⟩ : ∃ X : Array Value, X = (rootR x).cs := ⟨_, rfl⟩
  have HX := Lib.hid hX
  have XZ : Hid (X.size = 163) := by show _ = _; rw [hX]; exact root_size (rootR_ok x)
  have XO : Hid ((X.all fun x => x.oneCell') = true) := by show _ = _; rw [hX]; exact root_one
  have RO := Lib.hid (rootR_ok x)
  obtain ⟨nv, hnv⟩ : ∃ z : Nat, z = numV v0 := ⟨_, rfl⟩
  have HNV : Hid (numV v0 = nv) := hnv.symm
  have Hc := Lib.hid hc
  have Hm := Lib.hid hm
  have H1 := Lib.hid h1
  have XL := Lib.hid hl
  have HI1 := Lib.hid hi1
  have HI2 := Lib.hid hi2
  have HI3 := Lib.hid hi3
  have HI4 := Lib.hid hi4
  have HI5 := Lib.hid hi5
  have HI6 := Lib.hid hi6
  have HI7 := Lib.hid hi7
  have HO := Lib.hid (And.intro hr0 hO)
  clear hr hc hm h1 hl hi1 hi2 hi3 hi4 hi5 hi6 hi7 hX hZ hnv hr0 hO
  go_enter Try.func35, Try.ntmps35
  go_wp2_with (go_at_call 50; go_must (refine (open_any A c 8 b lookW 8 rfl (by decide) (by decide) _ R0.out Hc.out Hm.out).mono ?_; rintro e w1 ⟨p, rfl, hf, hb⟩; rw [H1.out.1, H1.out.2, hsz0] at hf; have F1 := Lib.hid hf; have W1 := Lib.hid (W0.out.frm (Frm.of_below (ps := []) hb) (by simp)); have PL := Lib.hid hf.lo; clear hf hb))
  refine AnyC.startB (fun _ => True) (by kernel_rfl) rfl ?_
  intro w2 hb2 hs2
  clear hs2
  have F2 := Lib.hid (F1.out.keep (Frm.of_below (ps := []) hb2) (by simp))
  have W2 := Lib.hid (W1.out.frm (Frm.of_below (ps := []) hb2) (by simp))
  clear hb2
  apply AnyC.take (i := 0) rfl (by kernel_rfl) rfl
  · intro w' hC K hK
    go_wp2
    exact hK
  · rfl
  apply AnyC.take (i := 2) rfl (by kernel_rfl) rfl
  · intro w' hC K hK
    go_wp2
    exact hK
  · rfl
  apply AnyC.take (i := 5) rfl (by kernel_rfl) rfl
  · intro w' hC K hK
    go_wp2
    exact hK
  · rfl
  apply AnyC.solo (i := 1) rfl (by kernel_rfl) trivial
  go_wp2_with (go_at_call 61; go_must (refine (root_any x [a, v0, d, fp, n, fs, m] false p (w.heap.size + 2) w2 F2.out (by have h_ := XL.out x (by simp); omega)).mono ?_; rintro e w3 ⟨rfl, hf, hfr⟩; rw [HI1.out] at hf; rw [← HX.out]; have F3 := Lib.hid hf; have W3 := Lib.hid (W2.out.frm hfr (by simp; exact PL.out)); clear hf hfr))
  refine ⟨rfl, ?_⟩
  apply AnyC.solo (i := 3) rfl (by kernel_rfl) trivial
  go_wp2_with (go_at_call 51; go_must (refine (next_any a [v0, d, fp, n, fs, m] false p (w.heap.size + 2) w3 F3.out).mono ?_; rintro e w4 ⟨Aa, ca, rfl, hca, hra, hf, hfr⟩; have F4 := Lib.hid hf; have W4 := Lib.hid (W3.out.frm hfr (by simp; exact PL.out)); have RA4 : Hid (RdI (w.heap.size + 2) p w4 Aa (bvs a) ∧ p ≤ w4.heap.size) := ⟨hra, Nat.le_of_lt hf.lt⟩; clear hf hfr hca hra))
  refine ⟨rfl, ?_⟩
  refine AnyC.narrow (C' := fun w' => RdI (w.heap.size + 2) p w' Aa (bvs a) ∧ p ≤ w'.heap.size) (fun _ _ => trivial) ?_
  apply AnyC.take (i := 4) rfl (by kernel_rfl) rfl
  · intro w' hC K hK
    have hs_ := run_str8 (hC.1.reads hC.2) ca
    go_wp2
    exact hK
  · rfl
  apply AnyC.solo (i := 6) rfl (by kernel_rfl) RA4.out
  go_wp2_with (go_at_call 53; go_must (refine (num_any v0 [d, fp, n, fs, m] false p (w.heap.size + 2) w4 F4.out (by have h_ := XL.out v0 (by simp); omega)).mono ?_; rintro e w5 ⟨rfl, hf, hfr⟩; rw [HI2.out] at hf; rw [HNV.out]; have F5 := Lib.hid hf; have W5 := Lib.hid (W4.out.frm hfr (by simp; exact PL.out)); have RA5 : Hid (RdI (w.heap.size + 2) p w5 Aa (bvs a) ∧ p ≤ w5.heap.size) := ⟨RA4.out.1.keep hfr RA4.out.2 (by simp), Nat.le_of_lt hf.lt⟩; clear hf hfr))
  refine ⟨rfl, ?_⟩
  apply AnyC.take (i := 7) rfl (by kernel_rfl) rfl
  · intro w' hC K hK
    go_wp2
    exact hK
  · rfl
  have th5 := there_row (n := 163) W5.out.s (by rw [lookC_size rootZ_ok z80_len z80_len]; decide)
  have W6 : Hid (LK w (w5.setCells (w.heap.size + 1) 0 X.toList) Z (lookC (rootR x) [] 0 (.slice none 0 0) z80 (.slice none 0 0) z80 (.slice none 0 0))) := by show LK _ _ _ _; rw [HX.out]; exact W5.out.root rootZ_ok RO.out
  have M6 : Hid (Frm [w.heap.size + 1] w5 (w5.setCells (w.heap.size + 1) 0 X.toList)) := Frm.setCells _ _ _ _
  apply AnyC.solo (i := 8) rfl (by kernel_rfl) RA5.out
  refine wpList_store_mid rfl _ _ _ rfl (w.heap.size + 1) 0 X rfl rfl (by rw [XZ.out]; with_reducible exact th5) (by rw [XZ.out]; kernel_rfl) (by exact XO.out) ?_
  go_wp2
  refine ⟨rfl, ?_⟩
  clear th5
  generalize w5.setCells (w.heap.size + 1) 0 X.toList = w6 at *
  have F6 := Lib.hid (F5.out.keep M6.out (by simp))
  have RA6 : Hid (RdI (w.heap.size + 2) p w6 Aa (bvs a) ∧ p ≤ w6.heap.size) := ⟨RA5.out.1.keep M6.out RA5.out.2 (by simp), Nat.le_of_lt F6.out.lt⟩
  apply AnyC.take (i := 9) rfl (by kernel_rfl) rfl
  · intro w' hC K hK
    go_wp2
    exact hK
  · rfl
  have c6 := W6.out.at_ (lookC_at RO.out z80_len z80_len).1
  obtain ⟨e163, f163⟩ := c6
  have SL6 := lookC_set (s := []) (s' := a) (v := 0) (v' := 0) (D := .slice none 0 0) (D' := .slice none 0 0) (F := .slice none 0 0) (F' := .slice none 0 0) (S := .slice none 0 0) (S' := .slice none 0 0) RO.out z80_len z80_len
  have W7 := Lib.hid (W6.out.set 163 (.string ⟨a.toArray⟩) SL6.1)
  apply AnyC.solo (i := 10) rfl (by kernel_rfl) RA6.out
  go_wp2
  refine ⟨rfl, ?_⟩
  clear e163 f163 SL6
  generalize w6.setCell ⟨w.heap.size + 1, 163, none⟩ (.string ⟨a.toArray⟩) = w7 at *
  have F7 := Lib.hid (F6.out.keep W7.out.2 (by simp))
  have RA7 : Hid (RdI (w.heap.size + 2) p w7 Aa (bvs a) ∧ p ≤ w7.heap.size) := ⟨RA6.out.1.keep W7.out.2 RA6.out.2 (by simp), Nat.le_of_lt F7.out.lt⟩
  apply AnyC.take (i := 11) rfl (by kernel_rfl) rfl
  · intro w' hC K hK
    go_wp2
    exact hK
  · rfl
  have c7 := W7.out.1.at_ (lookC_at RO.out z80_len z80_len).2.1
  obtain ⟨e164, f164⟩ := c7
  have SL7 := lookC_set (s := a) (s' := a) (v := 0) (v' := nv) (D := .slice none 0 0) (D' := .slice none 0 0) (F := .slice none 0 0) (F' := .slice none 0 0) (S := .slice none 0 0) (S' := .slice none 0 0) RO.out z80_len z80_len
  have W8 := Lib.hid (W7.out.1.set 164 (.int .u64 (nv : Int)) SL7.2.1)
  apply AnyC.solo (i := 12) rfl (by kernel_rfl) RA7.out
  go_wp2
  refine ⟨rfl, ?_⟩
  clear e164 f164 SL7
  generalize w7.setCell ⟨w.heap.size + 1, 164, none⟩ (.int .u64 (nv : Int)) = w8 at *
  have F8 := Lib.hid (F7.out.keep W8.out.2 (by simp))
  have RA8 : Hid (RdI (w.heap.size + 2) p w8 Aa (bvs a) ∧ p ≤ w8.heap.size) := ⟨RA7.out.1.keep W8.out.2 RA7.out.2 (by simp), Nat.le_of_lt F8.out.lt⟩
  refine AnyC.done RA8.out (by kernel_rfl) ?_
  clear RA4 RA5 RA6 RA7 RA8 F1 F2 F3 F4 F5 F6 F7 W0 W1 W2 W3 W4 W5 W6 W7 M6 R0 hsz0
  have A8 := Lib.hid (lookC_at (s := a) (v := nv) (D := .slice none 0 0) (F := .slice none 0 0) (S := .slice none 0 0) RO.out z80_len z80_len).2.2.1
  have TF0 : Hid True := trivial
  have TG0 : Hid True := trivial
  have HFP : Hid (fp.length = 80) := by show _ = _; have h_ := HI4.out; simpa using h_
  have HFS : Hid (fs.length = 80) := by show _ = _; have h_ := HI6.out; simpa using h_
  go_wp2_with (first
    | (go_at_call 62; go_must (refine (eachH_any d [fp, n, fs, m] false p (w.heap.size + 2) (w.heap.size + 1) _ _ F8.out W8.out.1.s A8.out (by omega) (XL.out d (by simp))).mono ?_; rintro e w9 ⟨rfl, hf, hfr, v5, hv5, hg5⟩; rw [HI3.out] at hf hg5; have hg6 := hg5 rfl; obtain ⟨nh, hoa⟩ := hg6; obtain ⟨Ah, ch, hv, _, _⟩ := ownR_form hoa; subst hv; have OH9 := Lib.hid hoa; clear hoa; rw [(lookC_set (s := a) (s' := a) (v := nv) (v' := nv) (D := (.slice none 0 0)) (D' := (.slice Ah nh ch)) (p := z80) (F := (.slice none 0 0)) (F' := (.slice none 0 0)) (p2 := z80) (S := (.slice none 0 0)) (S' := (.slice none 0 0)) RO.out z80_len z80_len).2.2.1] at hv5; have F9 := Lib.hid hf; have W9 := Lib.hid (W8.out.1.put hfr (by simp; have h_ := PL.out; omega) hv5); have PS : Hid (p < w8.heap.size ∧ w.heap.size + 1 < w8.heap.size) := ⟨F8.out.lt, lt_of_heap W8.out.1.s⟩; have PW9 : Hid (p < w9.heap.size ∧ w.heap.size + 1 < w9.heap.size) := ⟨F9.out.lt, lt_of_heap W9.out.s⟩; clear hf hfr hv5 hg5))
    | (go_at_call 52; have hx_ := TF1; go_must (refine (fixed_any fs [m] false 80 80 p (w.heap.size + 2) (w.heap.size + 1) 247 _ _ _ F12.out W12.out.1.s (by rw [lookC_size RO.out HFP.out z80_len]; decide) (.inl (by omega))).mono ?_; rintro e w13 ⟨rfl, hf, hfr, hrow⟩; rw [HI6.out] at hf; rw [lookC_sp RO.out HFP.out z80_len] at hrow; rw [put80_all HFS.out z80_len] at hrow; have F13 := Lib.hid hf; have W13 := Lib.hid (W12.out.1.put hfr (by simp; have h_ := PL.out; omega) hrow); have OH13 := Lib.hid (ownR_frms OH12.out hfr (by simp; have h_ := PS.out; have h2_ := PW9.out; omega)); have ON13 := Lib.hid (ownR_frms ON12.out hfr (by simp; have h_ := PS.out; have h2_ := PW9.out; have h3_ := PW10.out; omega)); have TF2 := hx_; clear TF1 hx_ hf hfr hrow))
    | (go_at_call 52; have hx_ := TF0; go_must (refine (fixed_any fp [n, fs, m] false 80 80 p (w.heap.size + 2) (w.heap.size + 1) 166 _ _ w9 F9.out W9.out.s (by rw [lookC_size RO.out z80_len z80_len]; decide) (.inl (by omega))).mono ?_; rintro e w10 ⟨rfl, hf, hfr, hrow⟩; rw [HI4.out] at hf; rw [lookC_fp RO.out z80_len] at hrow; rw [put80_all HFP.out z80_len] at hrow; have F10 := Lib.hid hf; have W10 := Lib.hid (W9.out.put hfr (by simp; have h_ := PL.out; omega) hrow); have OH10 := Lib.hid (ownR_frms OH9.out hfr (by simp; have h_ := PS.out; have h2_ := PW9.out; omega)); have TF1 := hx_; clear TF0 hx_ hf hfr hrow))
    | (go_at_call 64; have hx_ := TG1; go_must (refine (nodesF_any m [] false p (w.heap.size + 2) w13 F13.out (XL.out m (by simp))).mono ?_; rintro e w14 ⟨Am, nm, cm, xs_2, rfl, hf, hfr, hon, hgn⟩; rw [HI7.out] at hf hgn; have PW13 : Hid (p < w13.heap.size ∧ w.heap.size + 1 < w13.heap.size) := ⟨F13.out.lt, lt_of_heap W13.out.s⟩; have F14 := Lib.hid hf; have W14 := Lib.hid (W13.out.frm hfr (by simp; exact PL.out)); obtain ⟨e327, f327⟩ := W14.out.at_ (lookC_at (s := a) (v := nv) (D := (.slice Ah nh ch)) (F := (.slice An nn cn)) (S := (.slice none 0 0)) RO.out HFP.out HFS.out).2.2.2.2; have W15 := Lib.hid (W14.out.set 327 (.slice Am nm cm) (lookC_set (s := a) (s' := a) (v := nv) (v' := nv) (D := (.slice Ah nh ch)) (D' := (.slice Ah nh ch)) (p := fp) (F := (.slice An nn cn)) (F' := (.slice An nn cn)) (p2 := fs) (S := (.slice none 0 0)) (S' := (.slice Am nm cm)) RO.out HFP.out HFS.out).2.2.2.2); have OH15 := Lib.hid (ownR_frms (ownR_frms OH13.out hfr (by simp; have h_ := PS.out; have h2_ := PW9.out; omega)) W15.out.2 (by simp; have h_ := PS.out; have h2_ := PW9.out; omega)); have ON15 := Lib.hid (ownR_frms (ownR_frms ON13.out hfr (by simp; have h_ := PS.out; have h2_ := PW9.out; have h3_ := PW10.out; omega)) W15.out.2 (by simp; have h_ := PS.out; have h2_ := PW9.out; have h3_ := PW10.out; omega)); have OM15 := Lib.hid (ownR_frms hon W15.out.2 (by simp; have h_ := PW13.out; omega)); have F15 := Lib.hid (F14.out.keep W15.out.2 (by simp)); have GN2 := Lib.hid hgn; obtain ⟨eb, fb⟩ := F15.out.bad_at; clear TG1 hx_ hf hfr hon hgn))
    | (go_at_call 64; have hx_ := TG0; go_must (refine (nodesF_any n [fs, m] false p (w.heap.size + 2) w10 F10.out (XL.out n (by simp))).mono ?_; rintro e w11 ⟨An, nn, cn, xs_1, rfl, hf, hfr, hon, hgn⟩; rw [HI5.out] at hf hgn; have PW10 : Hid (p < w10.heap.size ∧ w.heap.size + 1 < w10.heap.size) := ⟨F10.out.lt, lt_of_heap W10.out.s⟩; have F11 := Lib.hid hf; have W11 := Lib.hid (W10.out.frm hfr (by simp; exact PL.out)); obtain ⟨e246, f246⟩ := W11.out.at_ (lookC_at (s := a) (v := nv) (D := (.slice Ah nh ch)) (F := (.slice none 0 0)) (S := (.slice none 0 0)) RO.out HFP.out z80_len).2.2.2.1; have W12 := Lib.hid (W11.out.set 246 (.slice An nn cn) (lookC_set (s := a) (s' := a) (v := nv) (v' := nv) (D := (.slice Ah nh ch)) (D' := (.slice Ah nh ch)) (p := fp) (F := (.slice none 0 0)) (F' := (.slice An nn cn)) (p2 := z80) (S := (.slice none 0 0)) (S' := (.slice none 0 0)) RO.out HFP.out z80_len).2.2.2.1); have OH12 := Lib.hid (ownR_frms (ownR_frms OH10.out hfr (by simp; have h_ := PS.out; have h2_ := PW9.out; omega)) W12.out.2 (by simp; have h_ := PS.out; have h2_ := PW9.out; omega)); have ON12 := Lib.hid (ownR_frms hon W12.out.2 (by simp; have h_ := PW10.out; omega)); have F12 := Lib.hid (F11.out.keep W12.out.2 (by simp)); have GN1 := Lib.hid hgn; have TG1 := hx_; clear TG0 hx_ hf hfr hon hgn))
    | (refine wpList_load_arr rfl _ _ rfl (w.heap.size + 1) 0 rfl (lookC (rootR x) a nv (.slice Ah nh ch) fp (.slice An nn cn) fs (.slice Am nm cm)) _ (by with_reducible exact range_row W15.out.1.s) Try.underlying57 rfl (by rw [lookC_size RO.out HFP.out HFS.out]; kernel_rfl) ?_)
    | (refine wpList_store_row rfl _ _ _ rfl w.heap.size (lookC (rootR x) a nv (.slice Ah nh ch) fp (.slice An nn cn) fs (.slice Am nm cm)) rfl rfl 57 Z (by with_reducible exact W15.out.1.t2) (by rw [lookC_size RO.out HFP.out HFS.out]; kernel_rfl) (by rw [lookC_size RO.out HFP.out HFS.out, HZz.out]) look_one ?_))
  have hld := ret57r (heap_setRow (cs := lookC (rootR x) a nv (.slice Ah nh ch) fp (.slice An nn cn) fs (.slice Am nm cm)) W15.out.1.t2) (lookC_size RO.out HFP.out HFS.out)
  have hk2 : ∀ {B : Nat} {e : TypeId} {s_ n_ : Nat} {v : Value} {xs : List Value}, w.heap.size < B → (w14.setCell ⟨w.heap.size + 1, 327, none⟩ (.slice Am nm cm)).ownsRow B e s_ v n_ xs → ((w14.setCell ⟨w.heap.size + 1, 327, none⟩ (.slice Am nm cm)).setRow w.heap.size (lookC (rootR x) a nv (.slice Ah nh ch) fp (.slice An nn cn) fs (.slice Am nm cm))).ownsRow B e s_ v n_ xs := fun hB h => ownR_frms h (Frm.setRow _ _ _).1 (fun q hq => .inl (by rw [List.mem_singleton.1 hq]; exact hB))
  have hg := GN1.out trivial
  have hg2 := GN2.out trivial
  have hnn := hg.1
  have hnm := hg2.1
  subst hnn hnm
  rw [hg.2] at ON15
  rw [hg2.2] at OM15
  have hrr : rootR x = r := (root_yes HO.out.1).1
  have o1 := hk2 (by have h_ := PS.out; omega) OH15.out
  have o2 := hk2 (by have h_ := PW10.out; omega) ON15.out
  have o3 := hk2 (by have h_ := PW13.out; omega) OM15.out
  refine bodyPost_ret (v := .tuple #[.agg (lookC (rootR x) a nv (.slice Ah nh ch) fp (.slice An (nodesOf n).length cn) fs (.slice Am (nodesOf m).length cm)), .int .i64 0]) (by simp [results, Try.results35, asAddr, hld]) rfl (LDP.yes (q := ⟨r, a, nv, d, fp, nodesOf n, fs, nodesOf m⟩) ?_ (by rw [hrr]) o1 o2 o3 (W15.out.1.below.trans ((Frm.setRow _ _ _).1.below W15.out.1.below.size (by simp))))
  unfold lookD
  rw [HO.out.2]
  have k2 : v0.length = 8 := by simpa using HI2.out
  have k3 : d.length % 32 = 0 := by simpa using HI3.out
  have k5 : nodesOK n = true := by simpa using HI5.out
  have k7 : nodesOK m = true := by simpa using HI7.out
  simp only [lookO, HO.out.1]
  rw [if_pos (by simp [lookOK, k2, k3, k5, k7, HFP.out, HFS.out]), HNV.out]
end Go.Proofs.Ytbpgbihcihnieaa

namespace Go.Proofs.Ytbpgbihcihnieaa
open Go.RowKit
theorem fields_eight (l word : List UInt8) : ∃ a b c d e f g h, (openV l word 8).getD (noFields 8) = [a, b, c, d, e, f, g, h] ∧ (∀ ls, openV l word 8 = some ls → ls = [a, b, c, d, e, f, g, h]) ∧ ∀ y ∈ [a, b, c, d, e, f, g, h], y.length ≤ 1048576 := by
  cases h : openV l word 8 with
  | none => exact ⟨[], [], [], [], [], [], [], [], rfl, by simp, by simp⟩
  | some ls =>
    obtain ⟨a, b, c, d, e, f, g, k, rfl⟩ := eight_of (openV_length h)
    exact ⟨a, b, c, d, e, f, g, k, rfl, fun ms hm => (Option.some.inj hm).symm, openV_le2 h⟩
theorem DecodeLookup_any (A : Option Addr) (c : Nat) (b : List UInt8) (w : World) (hr : Reads w w.heap.size 1 A b.length (bvs b)) (hc : b.length ≤ c) (hm : b.length ≤ 140737488355328) : Calls Try.prog 35 #[.slice A b.length c] w (LDP b w) := by
  obtain ⟨x, a, v, d, fp, n, fs, m, e1, s1, hl⟩ := fields_eight b lookW
  cases h : openV b lookW 8 with
  | none => exact wDL_f A c b w hr hc hm x a v d fp n fs m _ _ _ _ _ _ _ (by unfold lookD; rw [h]; rfl) ⟨e1, rfl⟩ hl rfl rfl rfl rfl rfl rfl (by rw [h]; rfl)
  | some ls =>
    obtain rfl := s1 ls h
    cases hq : (((((((false || !(rootD x).isSome) || !decide (v.length = 8)) || !decide (d.length % 32 = 0)) || !decide (fp.length = 80)) || !nodesOK n) || !decide (fs.length = 80)) || !nodesOK m) with
    | true =>
      refine wDL_f A c b w hr hc hm x a v d fp n fs m _ _ _ _ _ _ _ ?_ ⟨e1, rfl⟩ hl rfl rfl rfl rfl rfl rfl (by rw [h]; exact hq)
      unfold lookD
      rw [h]
      refine lookO_no ?_
      cases hx : (rootD x).isSome with
      | false => exact .inl rfl
      | true =>
        refine .inr ?_
        rw [hx] at hq
        cases hk : lookOK v fp fs d n m with
        | false => rfl
        | true =>
          simp only [lookOK, Bool.and_eq_true, decide_eq_true_eq] at hk
          obtain ⟨⟨⟨⟨⟨k1, k2⟩, k3⟩, k4⟩, k5⟩, k6⟩ := hk
          simp [k1, k2, k3, k4, k5, k6] at hq
    | false =>
      simp at hq
      obtain ⟨⟨⟨⟨⟨⟨h1, h2⟩, h3⟩, h4⟩, h5⟩, h6⟩, h7⟩ := hq
      obtain ⟨r, hr0⟩ := Option.isSome_iff_exists.1 h1
      exact wDL_ok A c b w hr hc hm x a v d fp n fs m r hr0 h ⟨e1, by rw [h]; rfl⟩ hl (by rw [hr0]; rfl) (by rw [decide_eq_true h2]; rfl) (by rw [decide_eq_true h3]; rfl) (by rw [decide_eq_true h4]; rfl) (by rw [h5]; rfl) (by rw [decide_eq_true h6]; rfl) (by rw [h7]; rfl)
end Go.Proofs.Ytbpgbihcihnieaa
