/- The texts N19a N19b N19c of this work, merged by wip/merge.py. No conditions. -/
import Derived.Test.YtbpgbihcihnieaaQN17
namespace Go.Proofs.Ytbpgbihcihnieaa
open Go.RowKit
theorem heap_setCells {b : Nat} {t : TypeId} : ∀ (vs pre old post : List Value) (o : Nat) (w : World), pre.length = o → old.length = vs.length → w.heap[b]? = some (.cells (pre ++ (old ++ post)).toArray t (0, 0)) → (w.setCells b o vs).heap[b]? = some (.cells (pre ++ (vs ++ post)).toArray t (0, 0))
  | [], pre, old, post, o, w, _, h2, h => by
    have : old = [] := List.eq_nil_of_length_eq_zero h2
    subst this
    exact h
  | v :: vs, pre, [], post, o, w, _, h2, _ => by simp at h2
  | v :: vs, pre, x :: old, post, o, w, h1, h2, h => by
    have h3 := heap_setCell_same w b o _ _ v h
    rw [World.setCells]
    have h4 : ((pre ++ (x :: old ++ post)).toArray.setIfInBounds o v) = ((pre ++ [v]) ++ (old ++ post)).toArray := by
      subst h1
      simp [List.set_append_right]
    rw [h4] at h3
    have h5 := heap_setCells vs (pre ++ [v]) old post (o + 1) _ (by simp [h1]) (by simpa using h2) h3
    rw [List.append_assoc] at h5
    exact h5
theorem Frm.setCells (b : Nat) : ∀ (vs : List Value) (o : Nat) (w : World), Frm [b] w (w.setCells b o vs)
  | [], _, w => Frm.refl _ w
  | v :: vs, o, w => by
    rw [World.setCells]
    exact (Frm.setCell w b o v).trans (Frm.setCells b vs (o + 1) _)
theorem step_root {w : World} {b : Nat} {t : TypeId} {r q : RootV} {x y z : Value} (hr : r.ok) (hq : q.ok) (h : w.heap[b]? = some (.cells (stepCs q x y z) t (0, 0))) : (w.setCells b 0 r.cs.toList).heap[b]? = some (.cells (stepCs r x y z) t (0, 0)) :=
  heap_setCells r.vs [] q.vs [x, y, z] 0 w rfl (by rw [vs_root hr, vs_root hq]) h
theorem step_set {r : RootV} (hr : r.ok) (x y z v : Value) : (stepCs r x y z).setIfInBounds 163 v = stepCs r v y z ∧ (stepCs r x y z).setIfInBounds 164 v = stepCs r x v z ∧ (stepCs r x y z).setIfInBounds 165 v = stepCs r x y v := by
  have hl := vs_root hr
  unfold stepCs
  refine ⟨?_, ?_, ?_⟩
  all_goals
    apply Array.toList_inj.1
    simp [List.set_append_right, hl]
theorem step_at {r : RootV} (hr : r.ok) (x y z : Value) : (stepCs r x y z)[163]? = some x ∧ (stepCs r x y z)[164]? = some y ∧ (stepCs r x y z)[165]? = some z := by
  have hl := vs_root hr
  unfold stepCs
  refine ⟨?_, ?_, ?_⟩ <;> simp [hl]
/-- What the round of each holds, while leaves are read into a step. -/
structure SI (x : List UInt8) (ls : List (List UInt8)) (p lo s : Nat) (C : Array Value) (w : World) (k : Nat) (w' : World) : Prop where
  fld : Fld w' p lo ls false
  frm : Frm [p, s] w w'
  row : ∃ v, w'.heap[s]? = some (.cells (C.setIfInBounds 164 v) 66 (0, 0)) ∧ w'.ownsRow w.heap.size 108 64 v k (bvs (x.take (k * 64)))
theorem SI.step {x : List UInt8} {ls : List (List UInt8)} {p lo s : Nat} {C : Array Value} {w : World} {k : Nat} {w' : World} (h : SI x ls p lo s C w k w') (hC : 164 < C.size) (hps : s < lo) (hlo : lo ≤ p) (hp : p < w.heap.size) (hx : x.length ≤ 1048576) (A : Option Addr) (c : Nat) (hk : k < x.length / 64) (hc : 64 ≤ c) (hr : RdI lo p w' A (bvs ((x.drop (k * 64)).take 64))) :
    Calls Try.prog 72 #[.slice A 64 c, .pointer (some ⟨s, 0, none⟩)] w' (fun e w'' => e = .returned (.tuple #[]) ∧ SI x ls p lo s C w (k + 1) w'') := by
  obtain ⟨v, h1, h2⟩ := h.row
  have hpl := h.fld.lt
  refine (step1_any A c lo p s w.heap.size k _ _ v _ _ w' (by rw [List.length_take, List.length_drop]; omega) hr (Nat.le_of_lt hpl) hc h1 (by simp [hC]) h2 (by omega) h.frm.size (by omega)).mono ?_
  rintro e w'' ⟨rfl, v', h3, h4, h5⟩
  refine ⟨rfl, h.fld.keepB h5 hp (by simp; exact .inl hps), h.frm.frb (h5.more (by simp)), v', ?_, ?_⟩
  · rw [Array.setIfInBounds_setIfInBounds] at h3
    exact h3
  · rw [take_chunk, bvs_append]
    exact h4
def EachL (x : List UInt8) (ls : List (List UInt8)) (bad : Bool) (p lo s : Nat) (C : Array Value) (w : World) (e : Ending) (w' : World) : Prop :=
  e = .returned (.tuple #[]) ∧ Fld w' p lo ls (bad || !decide (x.length % 64 = 0)) ∧ Frm [p, s] w w' ∧ ∃ v, w'.heap[s]? = some (.cells (C.setIfInBounds 164 v) 66 (0, 0)) ∧ ((bad || !decide (x.length % 64 = 0)) = false → ∃ n, w'.ownsRow w.heap.size 108 64 v n (bvs x))
theorem set_same {C : Array Value} {i : Nat} {v : Value} (h : C[i]? = some v) : C.setIfInBounds i v = C := by
  obtain ⟨hi, hv⟩ := Array.getElem?_eq_some_iff.1 h
  apply Array.ext
  · simp
  · intro j h1 h2
    rw [Array.getElem_setIfInBounds]
    split
    · rename_i hij; subst hij; exact hv.symm
    · rfl
theorem eachL_any (x : List UInt8) (ls : List (List UInt8)) (bad : Bool) (p lo s : Nat) (C : Array Value) (w : World) (h : Fld w p lo (x :: ls) bad) (hs : w.heap[s]? = some (.cells C 66 (0, 0))) (hC : C[164]? = some (.slice none 0 0)) (hsl : s < lo) (hx : x.length ≤ 1048576) :
    Calls Try.prog 62 #[.pointer (some ⟨p, 0, none⟩), .int .i64 64, .func (.func 72) #[] #[.pointer (some ⟨s, 0, none⟩)]] w (EachL x ls bad p lo s C w) := by
  have hlo := h.lo
  have no : ∀ e w', (bad || !decide (x.length % 64 = 0)) = true → EachNo ls p lo w e w' → EachL x ls bad p lo s C w e w' := by
    rintro e w' hb ⟨rfl, hf, hfr⟩
    refine ⟨rfl, by rw [hb]; exact hf, hfr.more (by simp), .slice none 0 0, by rw [set_same hC]; exact hfr.heap hs (by simp; omega), by rw [hb]; intro h; cases h⟩
  cases bad with
  | true => exact (each_bad1 _ 64 x ls p lo w h).mono (fun e w' hn => no e w' rfl hn)
  | false =>
    by_cases hm : x.length % 64 = 0
    · refine (each64 x ls p lo s w h hm (by omega) (fun k w' => SI x ls p lo s C w k w') (fun w' hf hfr => ⟨hf, hfr.more (by simp), .slice none 0 0, by rw [set_same hC]; exact hfr.heap hs (by simp; omega), World.ownsRow_nil _ _ _ 64⟩) (fun k w' hI => ⟨_, hI.frm, by simp; omega⟩) (fun k w' A c hk hI hc hr => hI.step (Array.getElem?_eq_some_iff.1 hC).1 hsl hlo h.lt hx A c hk hc hr)).mono ?_
      rintro e w' ⟨rfl, hI⟩
      obtain ⟨v, h1, h2⟩ := hI.row
      refine ⟨rfl, by rw [decide_eq_true hm]; exact hI.fld, hI.frm, v, h1, fun _ => ⟨x.length / 64, ?_⟩⟩
      rw [Nat.div_mul_cancel (Nat.dvd_of_mod_eq_zero hm), List.take_length] at h2
      exact h2
    · exact (each_bad2 _ 64 64 rfl (by decide) x ls p lo w h hm).mono (fun e w' hn => no e w' (by simp [hm]) hn)
end Go.Proofs.Ytbpgbihcihnieaa

namespace Go.Proofs.Ytbpgbihcihnieaa
open Go.RowKit
theorem ownR_frms {w w' : World} {base : Nat} {e : TypeId} {s n : Nat} {v : Value} {xs : List Value} {ps : List Nat} (h : w.ownsRow base e s v n xs) (hf : Frm ps w w') (hp : ∀ q ∈ ps, q < base ∨ v.ownBlock ≠ some q) : w'.ownsRow base e s v n xs := by
  obtain ⟨hl, h | ⟨g, cap, cur, h1, h2, h3, h4⟩⟩ := h
  · exact ⟨hl, .inl h⟩
  · refine ⟨hl, .inr ⟨g, cap, cur, h1, h2, ?_, h4⟩⟩
    refine (hf.block g (lt_of_heap h3) (fun hg => ?_)).trans h3
    rcases hp g hg with h5 | h5
    · omega
    · exact h5 (by rw [h1]; rfl)
/-- DecodeStep's two steps: the answer's place, the one under way. -/
structure SB (w v : World) (Z C : Array Value) : Prop where
  below : Below w.heap.size w v
  t2 : v.heap[w.heap.size]? = some (.cells Z 66 (0, 0))
  s : v.heap[w.heap.size + 1]? = some (.cells C 66 (0, 0))
theorem SB.start (w : World) (Z : Array Value) : SB w ((w.alloc (.cells Z 66)).alloc (.cells Z 66)) Z Z := by
  refine ⟨((Below.refl _ _).alloc (Nat.le_refl _) _).alloc (by simp) _, ?_, ?_⟩
  · rw [Below.heap_alloc _ _ _ (by simp)]; exact heap_alloc_new w _
  · have h1 := heap_alloc_new (w.alloc (.cells Z 66)) (.cells Z 66)
    rw [show (w.alloc (.cells Z 66)).heap.size = w.heap.size + 1 from by simp] at h1
    exact h1
theorem SB.frm {w v v' : World} {Z C : Array Value} {ps : List Nat} (h : SB w v Z C) (hf : Frm ps v v') (hp : ∀ q ∈ ps, w.heap.size + 2 ≤ q) : SB w v' Z C :=
  ⟨h.below.trans (hf.below h.below.size (fun q hq => by have := hp q hq; omega)), hf.heap h.t2 (fun hq => by have := hp _ hq; omega), hf.heap h.s (fun hq => by have := hp _ hq; omega)⟩
theorem SB.put {w v v' : World} {Z C C' : Array Value} {ps : List Nat} (h : SB w v Z C) (hf : Frm ps v v') (hp : ∀ q ∈ ps, w.heap.size + 1 ≤ q) (hs : v'.heap[w.heap.size + 1]? = some (.cells C' 66 (0, 0))) : SB w v' Z C' :=
  ⟨h.below.trans (hf.below h.below.size (fun q hq => by have := hp q hq; omega)), hf.heap h.t2 (fun hq => by have := hp _ hq; omega), hs⟩
theorem SB.root {w v : World} {Z : Array Value} {q r : RootV} {x y z : Value} (h : SB w v Z (stepCs q x y z)) (hq : q.ok) (hr : r.ok) : SB w (v.setCells (w.heap.size + 1) 0 r.cs.toList) Z (stepCs r x y z) :=
  h.put (Frm.setCells (w.heap.size + 1) r.cs.toList 0 v) (by simp) (step_root hr hq h.s)
theorem SB.at_ {w v : World} {Z : Array Value} {r : RootV} {x y z : Value} (h : SB w v Z (stepCs r x y z)) (hr : r.ok) : v.cell? ⟨w.heap.size + 1, 163, none⟩ = some x ∧ v.cell? ⟨w.heap.size + 1, 164, none⟩ = some y ∧ v.cell? ⟨w.heap.size + 1, 165, none⟩ = some z := by
  obtain ⟨h1, h2, h3⟩ := step_at hr x y z
  exact ⟨by rw [cell_of_row v _ _ _ _ _ h.s]; exact h1, by rw [cell_of_row v _ _ _ _ _ h.s]; exact h2, by rw [cell_of_row v _ _ _ _ _ h.s]; exact h3⟩
theorem SB.set163 {w v : World} {Z : Array Value} {r : RootV} {x y z : Value} (h : SB w v Z (stepCs r x y z)) (hr : r.ok) (u : Value) : SB w (v.setCell ⟨w.heap.size + 1, 163, none⟩ u) Z (stepCs r u y z) := by
  have h1 := heap_setCell_same v (w.heap.size + 1) 163 _ _ u h.s
  rw [(step_set hr x y z u).1] at h1
  exact h.put (Frm.setCell v (w.heap.size + 1) 163 u) (by simp) h1
theorem SB.set165 {w v : World} {Z : Array Value} {r : RootV} {x y z : Value} (h : SB w v Z (stepCs r x y z)) (hr : r.ok) (u : Value) : SB w (v.setCell ⟨w.heap.size + 1, 165, none⟩ u) Z (stepCs r x y u) := by
  have h1 := heap_setCell_same v (w.heap.size + 1) 165 _ _ u h.s
  rw [(step_set hr x y z u).2.2] at h1
  exact h.put (Frm.setCell v (w.heap.size + 1) 165 u) (by simp) h1
set_option maxRecDepth 100000 in
set_option maxHeartbeats 4000000 in
theorem wDS_f (A : Option Addr) (c : Nat) (b : List UInt8) (w : World) (hr : Reads w w.heap.size 1 A b.length (bvs b)) (hc : b.length ≤ c) (hm : b.length ≤ 140737488355328) (x n a l : List UInt8) (i0 i1 i2 i3 : Bool) (hD : stepD b = none)
    (h1 : (openV b stepW 4).getD (noFields 4) = [x, n, a, l] ∧ (!(openV b stepW 4).isSome) = i0) (hx : x.length ≤ 1048576 ∧ n.length ≤ 1048576 ∧ a.length ≤ 1048576 ∧ l.length ≤ 1048576)
    (hi1 : (i0 || !(rootD x).isSome) = i1) (hi2 : (i1 || !nodesOK n) = i2) (hi3 : (i2 || !decide (a.length % 64 = 0)) = i3) (hi4 : (i3 || !decide (l.length % 96 = 0)) = true) : Calls Try.prog 40 #[.slice A b.length c] w (SDPost b w) := by
  obtain ⟨Z, hZ⟩ : ∃ Z : Array Value, Z = stepZ := ⟨_, rfl⟩
  have hz := hz66
  rw [← hZ] at hz
  have HZ := Lib.hid hZ
  have HZz : Hid (Z.size = 166) := by show _ = _; rw [hZ]; exact stepZ_size
  have W0 : Hid (SB w ((w.alloc (.cells Z 66)).alloc (.cells Z 66)) Z (stepCs rootZ (.slice none 0 0) (.slice none 0 0) (.slice none 0 0))) := by
    have h_ := SB.start w Z
    rw [hZ] at h_ ⊢
    exact h_
  have R0 : Hid (Reads ((w.alloc (.cells Z 66)).alloc (.cells Z 66)) ((w.alloc (.cells Z 66)).alloc (.cells Z 66)).heap.size 1 A b.length (bvs b)) := (hr.keep fun _ hp => W0.out.below.cell hp).more W0.out.below.size
  have hsz0 : ((w.alloc (.cells Z 66)).alloc (.cells Z 66)).heap.size = w.heap.size + 2 := by simp
  obtain ⟨X, hX⟩ : ∃ X : Array Value, X = (rootR x).cs := ⟨_, rfl⟩
  have HX := Lib.hid hX
  have XZ : Hid (X.size = 163) := by show _ = _; rw [hX]; exact root_size (rootR_ok x)
  have RO := Lib.hid (rootR_ok x)
  have Hc := Lib.hid hc
  have Hm := Lib.hid hm
  have H1 := Lib.hid h1
  have XL := Lib.hid hx
  have HI1 := Lib.hid hi1
  have HI2 := Lib.hid hi2
  have HI3 := Lib.hid hi3
  have HI4 := Lib.hid hi4
  have HD := Lib.hid hD
  clear hr hc hm h1 hx hi1 hi2 hi3 hi4 hX hZ hD
  go_enter Try.func40, Try.ntmps40
  go_wp2_with (first
    | (go_at_call 50; go_must (refine (open_any A c 4 b stepW 4 rfl (by decide) (by decide) _ R0.out Hc.out Hm.out).mono ?_; rintro e w1 ⟨p, rfl, hf, hb⟩; rw [H1.out.1, H1.out.2, hsz0] at hf; have F1 := Lib.hid hf; have W1 := Lib.hid (W0.out.frm (Frm.of_below (ps := []) hb) (by simp)); have PL := Lib.hid hf.lo; clear hf hb))
    | (go_at_call 61; go_must (refine (root_any x [n, a, l] i0 p (w.heap.size + 2) w1 F1.out (by have h_ := XL.out.1; omega)).mono ?_; rintro e w2 ⟨rfl, hf, hfr⟩; rw [HI1.out] at hf; rw [← HX.out]; have F2 := Lib.hid hf; have W2 := Lib.hid (W1.out.frm hfr (by simp; exact PL.out)); clear hf hfr))
    | (go_at_call 64; go_must (refine (nodesF_any n [a, l] i1 p (w.heap.size + 2) w2 F2.out XL.out.2.1).mono ?_; rintro e w3 ⟨An, nn, cn, xsn, rfl, hf, hfr, hon, hgn⟩; rw [HI2.out] at hf hgn; have F3 := Lib.hid hf; have W3 := Lib.hid (W2.out.frm hfr (by simp; exact PL.out)); have th3 := Lib.hid (there_row (n := 163) W3.out.s (by rw [stepCs_size rootZ_ok]; decide)); have W3' : Hid (SB w (w3.setCells (w.heap.size + 1) 0 X.toList) Z (stepCs (rootR x) (.slice none 0 0) (.slice none 0 0) (.slice none 0 0))) := (by show SB _ _ _ _; rw [HX.out]; exact W3.out.root rootZ_ok RO.out); have e163 := (W3'.out.at_ RO.out).1; have fz3 := frozen_row W3'.out.s 163; have W4 := Lib.hid (W3'.out.set163 RO.out (.slice An nn cn)); have M4 : Hid (Frm [w.heap.size + 1] w3 ((w3.setCells (w.heap.size + 1) 0 X.toList).setCell ⟨w.heap.size + 1, 163, none⟩ (.slice An nn cn))) := (Frm.setCells _ _ _ _).trans (Frm.setCell _ _ _ _); have F4 := Lib.hid (F3.out.keep M4.out (by simp)); have S4 : Hid (w.heap.size + 2 ≤ w2.heap.size) := (by show _ ≤ _; have h_ := F2.out.lt; have h2_ := PL.out; omega); have ON4 := Lib.hid (ownR_frms hon M4.out (by simp; have h_ := S4.out; omega)); have GN := Lib.hid hgn; have C4 := Lib.hid (step_at RO.out (.slice An nn cn) (.slice none 0 0) (.slice none 0 0)).2.1; have PS : Hid (p < w2.heap.size ∧ p < w3.heap.size) := ⟨F2.out.lt, F3.out.lt⟩; clear hf hfr hon hgn))
    | (go_at_call 62; go_must (refine (eachL_any a [l] i2 p (w.heap.size + 2) (w.heap.size + 1) _ _ F4.out W4.out.s C4.out (by omega) XL.out.2.2.1).mono ?_; rintro e w5 ⟨rfl, hf, hfr, v5, hv5, hg5⟩; rw [HI3.out] at hf hg5; rw [(step_set RO.out _ _ _ _).2.1] at hv5; have F5 := Lib.hid hf; have W5 := Lib.hid (W4.out.put hfr (by simp; have h_ := PL.out; omega) hv5); have ON5 := Lib.hid (ownR_frms ON4.out hfr (by simp; have h_ := S4.out; have h2_ := PS.out; omega)); clear hf hfr hv5 hg5))
    | (go_at_call 73; go_must (refine (links_any l [] i3 p (w.heap.size + 2) w5 F5.out XL.out.2.2.2).mono ?_; rintro e w6 ⟨Al, nl, cl, xsl, rfl, hf, hfr, hol, hgl⟩; rw [HI4.out] at hf hgl; have F6 := Lib.hid hf; have W6 := Lib.hid (W5.out.frm hfr (by simp; exact PL.out)); have e165 := (W6.out.at_ RO.out).2.2; have fz6 := frozen_row W6.out.s 165; have ON6 := Lib.hid (ownR_frms ON5.out hfr (by simp; have h2_ := PS.out; omega)); have W7 := Lib.hid (W6.out.set165 RO.out (.slice Al nl cl)); have M7 : Hid (Frm [w.heap.size + 1] w6 (w6.setCell ⟨w.heap.size + 1, 165, none⟩ (.slice Al nl cl))) := Frm.setCell _ _ _ _; have F7 := Lib.hid (F6.out.keep M7.out (by simp)); obtain ⟨e7, fz7⟩ := F7.out.bad_at; have ON7 := Lib.hid (ownR_frms ON6.out M7.out (by simp; have h_ := S4.out; omega)); have OL7 := Lib.hid (ownR_frms hol M7.out (by simp; have h_ := F5.out.lt; have h2_ := PL.out; omega)); have GL := Lib.hid hgl; clear hf hfr hol hgl))
    | (refine wpList_store_mid rfl _ _ _ rfl (w.heap.size + 1) 0 X rfl rfl (by rw [XZ.out]; with_reducible exact th3.out) (by rw [XZ.out]; kernel_rfl) (by rw [HX.out]; exact root_one) ?_)
    | (refine wpList_store_row rfl _ _ _ rfl w.heap.size Z rfl rfl 66 Z (by with_reducible exact W7.out.t2) (by rw [HZz.out]; kernel_rfl) (by rfl) (by rw [HZ.out]; exact stepZ_one) ?_))
  have hld := ret66r (heap_setRow (cs := Z) W7.out.t2) HZz.out
  refine bodyPost_ret (v := .tuple #[.agg Z, .int .i64 2]) (by simp [results, Try.results40, asAddr, hld]) rfl (.inl ⟨HD.out, by rw [← HZ.out], ?_⟩)
  exact W7.out.below.trans ((Frm.setRow _ _ _).1.below W7.out.below.size (by simp))
set_option maxRecDepth 100000 in
set_option maxHeartbeats 4000000 in
theorem wDS_ok (A : Option Addr) (c : Nat) (b : List UInt8) (w : World) (hr : Reads w w.heap.size 1 A b.length (bvs b)) (hc : b.length ≤ c) (hm : b.length ≤ 140737488355328) (x n a l : List UInt8) (r : RootV) (hr0 : rootD x = some r) (hO : openV b stepW 4 = some [x, n, a, l])
    (h1 : (openV b stepW 4).getD (noFields 4) = [x, n, a, l] ∧ (!(openV b stepW 4).isSome) = false) (hx : x.length ≤ 1048576 ∧ n.length ≤ 1048576 ∧ a.length ≤ 1048576 ∧ l.length ≤ 1048576)
    (hi1 : (false || !(rootD x).isSome) = false) (hi2 : (false || !nodesOK n) = false) (hi3 : (false || !decide (a.length % 64 = 0)) = false) (hi4 : (false || !decide (l.length % 96 = 0)) = false) : Calls Try.prog 40 #[.slice A b.length c] w (SDPost b w) := by
  obtain ⟨Z, hZ⟩ : ∃ Z : Array Value, Z = stepZ := ⟨_, rfl⟩
  have hz := hz66
  rw [← hZ] at hz
  have HZ := Lib.hid hZ
  have HZz : Hid (Z.size = 166) := by show _ = _; rw [hZ]; exact stepZ_size
  have W0 : Hid (SB w ((w.alloc (.cells Z 66)).alloc (.cells Z 66)) Z (stepCs rootZ (.slice none 0 0) (.slice none 0 0) (.slice none 0 0))) := by
    have h_ := SB.start w Z
    rw [hZ] at h_ ⊢
    exact h_
  have R0 : Hid (Reads ((w.alloc (.cells Z 66)).alloc (.cells Z 66)) ((w.alloc (.cells Z 66)).alloc (.cells Z 66)).heap.size 1 A b.length (bvs b)) := (hr.keep fun _ hp => W0.out.below.cell hp).more W0.out.below.size
  have hsz0 : ((w.alloc (.cells Z 66)).alloc (.cells Z 66)).heap.size = w.heap.size + 2 := by simp
  obtain ⟨X, hX⟩ : ∃ X : Array Value, X = (rootR x).cs := ⟨_, rfl⟩
  have HX := Lib.hid hX
  have XZ : Hid (X.size = 163) := by show _ = _; rw [hX]; exact root_size (rootR_ok x)
  have RO := Lib.hid (rootR_ok x)
  have Hc := Lib.hid hc
  have Hm := Lib.hid hm
  have H1 := Lib.hid h1
  have XL := Lib.hid hx
  have HI1 := Lib.hid hi1
  have HI2 := Lib.hid hi2
  have HI3 := Lib.hid hi3
  have HI4 := Lib.hid hi4
  have HO := Lib.hid (And.intro hr0 hO)
  clear hr hc hm h1 hx hi1 hi2 hi3 hi4 hX hZ hr0 hO
  go_enter Try.func40, Try.ntmps40
  go_wp2_with (first
    | (go_at_call 50; go_must (refine (open_any A c 4 b stepW 4 rfl (by decide) (by decide) _ R0.out Hc.out Hm.out).mono ?_; rintro e w1 ⟨p, rfl, hf, hb⟩; rw [H1.out.1, H1.out.2, hsz0] at hf; have F1 := Lib.hid hf; have W1 := Lib.hid (W0.out.frm (Frm.of_below (ps := []) hb) (by simp)); have PL := Lib.hid hf.lo; clear hf hb))
    | (go_at_call 61; go_must (refine (root_any x [n, a, l] false p (w.heap.size + 2) w1 F1.out (by have h_ := XL.out.1; omega)).mono ?_; rintro e w2 ⟨rfl, hf, hfr⟩; rw [HI1.out] at hf; rw [← HX.out]; have F2 := Lib.hid hf; have W2 := Lib.hid (W1.out.frm hfr (by simp; exact PL.out)); clear hf hfr))
    | (go_at_call 64; go_must (refine (nodesF_any n [a, l] false p (w.heap.size + 2) w2 F2.out XL.out.2.1).mono ?_; rintro e w3 ⟨An, nn, cn, xsn, rfl, hf, hfr, hon, hgn⟩; rw [HI2.out] at hf hgn; have F3 := Lib.hid hf; have W3 := Lib.hid (W2.out.frm hfr (by simp; exact PL.out)); have th3 := Lib.hid (there_row (n := 163) W3.out.s (by rw [stepCs_size rootZ_ok]; decide)); have W3' : Hid (SB w (w3.setCells (w.heap.size + 1) 0 X.toList) Z (stepCs (rootR x) (.slice none 0 0) (.slice none 0 0) (.slice none 0 0))) := (by show SB _ _ _ _; rw [HX.out]; exact W3.out.root rootZ_ok RO.out); have e163 := (W3'.out.at_ RO.out).1; have fz3 := frozen_row W3'.out.s 163; have W4 := Lib.hid (W3'.out.set163 RO.out (.slice An nn cn)); have M4 : Hid (Frm [w.heap.size + 1] w3 ((w3.setCells (w.heap.size + 1) 0 X.toList).setCell ⟨w.heap.size + 1, 163, none⟩ (.slice An nn cn))) := (Frm.setCells _ _ _ _).trans (Frm.setCell _ _ _ _); have F4 := Lib.hid (F3.out.keep M4.out (by simp)); have S4 : Hid (w.heap.size + 2 ≤ w2.heap.size) := (by show _ ≤ _; have h_ := F2.out.lt; have h2_ := PL.out; omega); have ON4 := Lib.hid (ownR_frms hon M4.out (by simp; have h_ := S4.out; omega)); have GN := Lib.hid hgn; have C4 := Lib.hid (step_at RO.out (.slice An nn cn) (.slice none 0 0) (.slice none 0 0)).2.1; have PS : Hid (p < w2.heap.size ∧ p < w3.heap.size) := ⟨F2.out.lt, F3.out.lt⟩; clear hf hfr hon hgn))
    | (go_at_call 62; go_must (refine (eachL_any a [l] false p (w.heap.size + 2) (w.heap.size + 1) _ _ F4.out W4.out.s C4.out (by omega) XL.out.2.2.1).mono ?_; rintro e w5 ⟨rfl, hf, hfr, v5, hv5, hg5⟩; rw [HI3.out] at hf hg5; have hg6 := hg5 rfl; obtain ⟨na, hoa⟩ := hg6; obtain ⟨Aa, ca, hv, _, _⟩ := ownR_form hoa; subst hv; have OA5 := Lib.hid hoa; clear hoa; rw [(step_set RO.out _ _ _ _).2.1] at hv5; have F5 := Lib.hid hf; have W5 := Lib.hid (W4.out.put hfr (by simp; have h_ := PL.out; omega) hv5); have ON5 := Lib.hid (ownR_frms ON4.out hfr (by simp; have h_ := S4.out; have h2_ := PS.out; omega)); clear hf hfr hv5 hg5))
    | (go_at_call 73; go_must (refine (links_any l [] false p (w.heap.size + 2) w5 F5.out XL.out.2.2.2).mono ?_; rintro e w6 ⟨Al, nl, cl, xsl, rfl, hf, hfr, hol, hgl⟩; rw [HI4.out] at hf hgl; have F6 := Lib.hid hf; have W6 := Lib.hid (W5.out.frm hfr (by simp; exact PL.out)); have e165 := (W6.out.at_ RO.out).2.2; have fz6 := frozen_row W6.out.s 165; have ON6 := Lib.hid (ownR_frms ON5.out hfr (by simp; have h2_ := PS.out; omega)); have OA6 := Lib.hid (ownR_frms OA5.out hfr (fun q hq => .inl (by rw [List.mem_singleton.1 hq]; have h_ := F4.out.lt; omega))); have W7 := Lib.hid (W6.out.set165 RO.out (.slice Al nl cl)); have M7 : Hid (Frm [w.heap.size + 1] w6 (w6.setCell ⟨w.heap.size + 1, 165, none⟩ (.slice Al nl cl))) := Frm.setCell _ _ _ _; have F7 := Lib.hid (F6.out.keep M7.out (by simp)); obtain ⟨e7, fz7⟩ := F7.out.bad_at; have ON7 := Lib.hid (ownR_frms ON6.out M7.out (by simp; have h_ := S4.out; omega)); have OA7 := Lib.hid (ownR_frms OA6.out M7.out (fun q hq => .inl (by rw [List.mem_singleton.1 hq]; have h_ := F4.out.lt; have h2_ := PL.out; omega))); have OL7 := Lib.hid (ownR_frms hol M7.out (by simp; have h_ := F5.out.lt; have h2_ := PL.out; omega)); have GL := Lib.hid hgl; clear hf hfr hol hgl))
    | (refine wpList_store_mid rfl _ _ _ rfl (w.heap.size + 1) 0 X rfl rfl (by rw [XZ.out]; with_reducible exact th3.out) (by rw [XZ.out]; kernel_rfl) (by rw [HX.out]; exact root_one) ?_)
    | (refine wpList_load_arr rfl _ _ rfl (w.heap.size + 1) 0 rfl (stepCs (rootR x) (.slice An nn cn) (.slice Aa na ca) (.slice Al nl cl)) _ (by with_reducible exact range_row W7.out.s) Try.underlying66 rfl (by rw [stepCs_size RO.out]; kernel_rfl) ?_)
    | (refine wpList_store_row rfl _ _ _ rfl w.heap.size (stepCs (rootR x) (.slice An nn cn) (.slice Aa na ca) (.slice Al nl cl)) rfl rfl 66 Z (by with_reducible exact W7.out.t2) (by rw [stepCs_size RO.out]; kernel_rfl) (by rw [stepCs_size RO.out, HZz.out]) step_one ?_))
  have hld := ret66r (heap_setRow (cs := stepCs (rootR x) (.slice An nn cn) (.slice Aa na ca) (.slice Al nl cl)) W7.out.t2) (stepCs_size RO.out _ _ _)
  have hk2 : ∀ {B : Nat} {e : TypeId} {s n : Nat} {v : Value} {xs : List Value}, w.heap.size + 2 ≤ B → (w6.setCell ⟨w.heap.size + 1, 165, none⟩ (.slice Al nl cl)).ownsRow B e s v n xs → ((w6.setCell ⟨w.heap.size + 1, 165, none⟩ (.slice Al nl cl)).setRow w.heap.size (stepCs (rootR x) (.slice An nn cn) (.slice Aa na ca) (.slice Al nl cl))).ownsRow w.heap.size e s v n xs := fun hB h => ownR_base (ownR_frms h (Frm.setRow _ _ _).1 (by simp; omega)) (by omega)
  have hg := GN.out trivial
  have hg2 := GL.out trivial
  have hnn := hg.1
  subst hnn
  rw [hg.2] at ON7
  rw [hg2] at OL7
  have hrr : rootR x = r := (root_yes HO.out.1).1
  refine bodyPost_ret (v := .tuple #[.agg (stepCs (rootR x) (.slice An (nodesOf n).length cn) (.slice Aa na ca) (.slice Al nl cl)), .int .i64 0]) (by simp [results, Try.results40, asAddr, hld]) rfl (.inr ⟨r, nodesOf n, a, l, An, Aa, Al, (nodesOf n).length, cn, na, ca, nl, cl, ?_, by rw [hrr], hk2 S4.out ON7.out, hk2 (by have h_ := F4.out.lt; have h2_ := PL.out; omega) OA7.out, hk2 (by have h_ := F5.out.lt; have h2_ := PL.out; omega) OL7.out, W7.out.below.trans ((Frm.setRow _ _ _).1.below W7.out.below.size (by simp))⟩)
  unfold stepD
  rw [HO.out.2]
  have k2 : nodesOK n = true := by simpa using HI2.out
  have k3 : decide (a.length % 64 = 0) = true := by simpa using HI3.out
  have k4 : decide (l.length % 96 = 0) = true := by simpa using HI4.out
  simp only [stepO, HO.out.1, k2, k3, k4, Bool.and_self, if_true]
end Go.Proofs.Ytbpgbihcihnieaa

namespace Go.Proofs.Ytbpgbihcihnieaa
open Go.RowKit
theorem fields_four (l word : List UInt8) : ∃ a b c d, (openV l word 4).getD (noFields 4) = [a, b, c, d] ∧ (∀ ls, openV l word 4 = some ls → ls = [a, b, c, d]) ∧ (a.length ≤ 1048576 ∧ b.length ≤ 1048576 ∧ c.length ≤ 1048576 ∧ d.length ≤ 1048576) := by
  cases h : openV l word 4 with
  | none => exact ⟨[], [], [], [], rfl, by simp, by simp⟩
  | some ls =>
    obtain ⟨a, b, c, d, rfl⟩ := four_of (openV_length h)
    exact ⟨a, b, c, d, rfl, fun ms hm => (Option.some.inj hm).symm, openV_le2 h a (by simp), openV_le2 h b (by simp), openV_le2 h c (by simp), openV_le2 h d (by simp)⟩
theorem stepO_no {x n a l : List UInt8} (h : ((((false || !(rootD x).isSome) || !nodesOK n) || !decide (a.length % 64 = 0)) || !decide (l.length % 96 = 0)) = true) : stepO (some [x, n, a, l]) = none := by
  simp only [stepO]
  cases hx : rootD x with
  | none => rfl
  | some r =>
    simp only
    rw [if_neg]
    intro h2
    rw [hx] at h
    simp at h h2
    obtain ⟨⟨h3, h4⟩, h5⟩ := h2
    rcases h with (h6 | h6) | h6
    · rw [h3] at h6; cases h6
    · exact h6 h4
    · exact h6 h5
theorem DecodeStep_any (A : Option Addr) (c : Nat) (b : List UInt8) (w : World) (hr : Reads w w.heap.size 1 A b.length (bvs b)) (hc : b.length ≤ c) (hm : b.length ≤ 140737488355328) : Calls Try.prog 40 #[.slice A b.length c] w (SDPost b w) := by
  obtain ⟨x, n, a, l, e1, s1, hl⟩ := fields_four b stepW
  cases h : openV b stepW 4 with
  | none => exact wDS_f A c b w hr hc hm x n a l _ _ _ _ (by unfold stepD; rw [h]; rfl) ⟨e1, rfl⟩ hl rfl rfl rfl (by rw [h]; rfl)
  | some ls =>
    obtain rfl := s1 ls h
    cases hq : ((((false || !(rootD x).isSome) || !nodesOK n) || !decide (a.length % 64 = 0)) || !decide (l.length % 96 = 0)) with
    | true => exact wDS_f A c b w hr hc hm x n a l _ _ _ _ (by unfold stepD; rw [h]; exact stepO_no hq) ⟨e1, rfl⟩ hl rfl rfl rfl (by rw [h]; exact hq)
    | false =>
      simp at hq
      obtain ⟨⟨⟨h1, h2⟩, h3⟩, h4⟩ := hq
      obtain ⟨r, hr0⟩ := Option.isSome_iff_exists.1 h1
      exact wDS_ok A c b w hr hc hm x n a l r hr0 h ⟨e1, by rw [h]; rfl⟩ hl (by rw [hr0]; rfl) (by rw [h2]; rfl) (by rw [decide_eq_true h3]; rfl) (by rw [decide_eq_true h4]; rfl)
end Go.Proofs.Ytbpgbihcihnieaa
