/- The texts N17 N18 of this work, merged by wip/merge.py. No conditions. -/
import Derived.Test.YtbpgbihcihnieaaQN16
namespace Go.Proofs.Ytbpgbihcihnieaa
open Go.RowKit
theorem take_chunk {α : Type} (x : List α) (k s : Nat) : x.take ((k + 1) * s) = x.take (k * s) ++ (x.drop (k * s)).take s := by
  rw [Nat.succ_mul, List.take_add]
theorem frm_drop {p s : Nat} {w w' : World} (h : Frm [p, s] w w') (hs : w.heap.size ≤ s) : Frm [p] w w' := ⟨h.os, h.tape, h.output, h.size, fun k hk hn => h.block k hk (by simp at hn ⊢; omega)⟩
/-- What the round of each holds, while links are read. -/
structure LI (x : List UInt8) (ls : List (List UInt8)) (p lo s : Nat) (w : World) (k : Nat) (w' : World) : Prop where
  fld : Fld w' p lo ls false
  frm : Frm [p, s] w w'
  row : ∃ v, w'.heap[s]? = some (.cells #[v] 64 (0, 0)) ∧ w'.ownsRow w.heap.size 121 96 v k (bvs (x.take (k * 96)))
theorem LI.step {x : List UInt8} {ls : List (List UInt8)} {p lo s : Nat} {w : World} {k : Nat} {w' : World} (h : LI x ls p lo s w k w') (hps : p < s) (hs : s < w.heap.size) (hx : x.length ≤ 1048576) (A : Option Addr) (c : Nat) (hk : k < x.length / 96) (hc : 96 ≤ c) (hr : RdI lo p w' A (bvs ((x.drop (k * 96)).take 96))) :
    Calls Try.prog 83 #[.slice A 96 c, .pointer (some ⟨s, 0, none⟩)] w' (fun e w'' => e = .returned (.tuple #[]) ∧ LI x ls p lo s w (k + 1) w'') := by
  obtain ⟨v, h1, h2⟩ := h.row
  have hpl := h.fld.lt
  refine (links1_any A c lo p s w.heap.size k _ #[v] v _ _ w' (by rw [List.length_take, List.length_drop]; omega) hr (Nat.le_of_lt hpl) hc h1 rfl h2 hs h.frm.size (by omega)).mono ?_
  rintro e w'' ⟨rfl, v', h3, h4, h5⟩
  refine ⟨rfl, h.fld.keepB h5 (by omega) (by simp; exact .inr hps), h.frm.frb (h5.more (by simp)), v', h3, ?_⟩
  rw [take_chunk, bvs_append]
  exact h4
def LinksF (x : List UInt8) (ls : List (List UInt8)) (bad : Bool) (p lo : Nat) (w : World) (e : Ending) (w' : World) : Prop :=
  ∃ A n c xs, e = .returned (.slice A n c) ∧ Fld w' p lo ls (bad || !decide (x.length % 96 = 0)) ∧ Frm [p] w w' ∧ w'.ownsRow w.heap.size 121 96 (.slice A n c) n xs ∧ ((bad || !decide (x.length % 96 = 0)) = false → xs = bvs x)
set_option maxRecDepth 100000 in
set_option maxHeartbeats 1000000 in
theorem links_no (x : List UInt8) (ls : List (List UInt8)) (bad : Bool) (p lo : Nat) (w : World) (h : Fld w p lo (x :: ls) bad) (hb : (bad || !decide (x.length % 96 = 0)) = true) : Calls Try.prog 73 #[.pointer (some ⟨p, 0, none⟩)] w (LinksF x ls bad p lo w) := by
  have PL := Lib.hid h.lt
  have F0 : Hid (Fld (w.alloc (.cells #[.slice none 0 0] 64)) p lo (x :: ls) bad) := h.keep (Frm.of_below (ps := []) ((Below.refl _ _).alloc (Nat.le_refl _) _)) (by simp)
  have HB := Lib.hid hb
  have A0 := Lib.hid (heap_alloc_new w (.cells #[.slice none 0 0] 64))
  have EA : Hid (∀ F, Calls Try.prog 62 #[.pointer (some ⟨p, 0, none⟩), .int .i64 96, F] (w.alloc (.cells #[.slice none 0 0] 64)) (EachNo ls p lo (w.alloc (.cells #[.slice none 0 0] 64)))) := fun F => by
    cases bad with
    | true => exact each_bad1 F 96 x ls p lo _ F0.out
    | false => exact each_bad2 F 96 96 rfl (by decide) x ls p lo _ F0.out (by simpa using hb)
  clear h hb
  go_enter Try.func73, Try.ntmps73
  go_wp2_with (go_at_call 62; go_must (refine (EA.out _).mono ?_; rintro e w2 ⟨rfl, hf, hfr⟩; have F2 := Lib.hid hf; have M2 : Hid (Frm [p] w w2) := (Frm.of_below ((Below.refl _ w).alloc (Nat.le_refl _) _)).trans hfr; have A2 := Lib.hid (hfr.heap A0.out (by simp; have h_ := PL.out; omega)); have e2 : w2.cell? ⟨w.heap.size, 0, none⟩ = some (.slice none 0 0) := (by rw [cell_of_row w2 _ 0 _ _ _ A2.out]; rfl); clear hf hfr))
  go_ret
  exact ⟨none, 0, 0, [], rfl, by rw [HB.out]; exact F2.out, M2.out, World.ownsRow_nil _ _ _ 96, by rw [HB.out]; intro h; cases h⟩
set_option maxRecDepth 100000 in
set_option maxHeartbeats 1000000 in
theorem links_yes (x : List UInt8) (ls : List (List UInt8)) (p lo : Nat) (w : World) (h : Fld w p lo (x :: ls) false) (hx : x.length ≤ 1048576) (hm : x.length % 96 = 0) : Calls Try.prog 73 #[.pointer (some ⟨p, 0, none⟩)] w (LinksF x ls false p lo w) := by
  have PL := Lib.hid h.lt
  obtain ⟨w1, hw1⟩ : ∃ w1, w1 = w.alloc (.cells #[.slice none 0 0] 64) := ⟨_, rfl⟩
  have F0 : Hid (Fld w1 p lo (x :: ls) false) := by rw [hw1]; exact h.keep (Frm.of_below (ps := []) ((Below.refl _ _).alloc (Nat.le_refl _) _)) (by simp)
  have S0 : Hid (w1.heap.size = w.heap.size + 1) := by rw [hw1]; show _ = _; simp
  have A0 : Hid (w1.heap[w.heap.size]? = some (.cells #[.slice none 0 0] 64 (0, 0))) := by rw [hw1]; exact heap_alloc_new w _
  have B0 : Hid (Below w.heap.size w w1) := by rw [hw1]; exact (Below.refl _ w).alloc (Nat.le_refl _) _
  have HM := Lib.hid hm
  have HX := Lib.hid hx
  have EA : Hid (Calls Try.prog 62 #[.pointer (some ⟨p, 0, none⟩), .int .i64 96, .func (.func 83) #[] #[.pointer (some ⟨w.heap.size, 0, none⟩)]] w1 (fun e w' => e = .returned (.tuple #[]) ∧ LI x ls p lo w.heap.size w1 (x.length / 96) w')) := by
    refine each96 x ls p lo w.heap.size w1 F0.out hm (by omega) (fun k w' => LI x ls p lo w.heap.size w1 k w') (fun w' hf hfr => ⟨hf, hfr.more (by simp), _, hfr.heap A0.out (by simp; have h_ := PL.out; omega), World.ownsRow_nil _ _ _ 96⟩) (fun k w' hI => ⟨_, hI.frm, by have h_ := PL.out; simp; omega⟩) (fun k w' A c hk hI hc hr => hI.step PL.out (by have h_ := S0.out; omega) hx A c hk hc hr)
  rw [hw1] at EA
  clear h hm hx
  go_enter Try.func73, Try.ntmps73
  go_wp2_with (go_at_call 62; go_must (refine EA.out.mono ?_; rintro e w2 ⟨rfl, hI⟩; rw [← hw1] at hI; obtain ⟨v, h1, h2⟩ := hI.row; obtain ⟨A, c, hv, _, _⟩ := ownR_form h2; subst hv; have e2 : w2.cell? ⟨w.heap.size, 0, none⟩ = some (.slice A (x.length / 96) c) := (by rw [cell_of_row w2 _ 0 _ _ _ h1]; rfl); have O2 := Lib.hid h2; have I2 := Lib.hid hI; clear h1 h2 hI))
  go_ret
  refine ⟨A, x.length / 96, c, bvs x, rfl, by rw [show (false || !decide (x.length % 96 = 0)) = false from by rw [decide_eq_true HM.out]; rfl]; exact I2.out.fld, frm_drop ((Frm.of_below B0.out).trans I2.out.frm) (Nat.le_refl _), ?_, fun _ => rfl⟩
  have h2 := ownR_base O2.out B0.out.size
  rw [Nat.div_mul_cancel (Nat.dvd_of_mod_eq_zero HM.out), List.take_length] at h2
  exact h2
theorem links_any (x : List UInt8) (ls : List (List UInt8)) (bad : Bool) (p lo : Nat) (w : World) (h : Fld w p lo (x :: ls) bad) (hx : x.length ≤ 1048576) : Calls Try.prog 73 #[.pointer (some ⟨p, 0, none⟩)] w (LinksF x ls bad p lo w) := by
  cases hb : (bad || !decide (x.length % 96 = 0)) with
  | true => exact links_no x ls bad p lo w h hb
  | false =>
    simp at hb
    obtain ⟨rfl, hm⟩ := hb
    exact links_yes x ls p lo w h hx hm
end Go.Proofs.Ytbpgbihcihnieaa

namespace Go.Proofs.Ytbpgbihcihnieaa
open Go.RowKit
def nok (b : List UInt8) (k : Nat) : Bool := (List.range k).all fun j => decide (nodeN b j ≤ 256)
theorem nok_succ (b : List UInt8) (k : Nat) : nok b (k + 1) = (nok b k && decide (nodeN b k ≤ 256)) := by
  unfold nok
  rw [List.range_succ, List.all_append]
  simp
theorem nodesOK_nok {b : List UInt8} (h : b.length % 66 = 0) : nodesOK b = nok b (b.length / 66) := by
  unfold nodesOK nok
  rw [decide_eq_true h, Bool.true_and]
/-- What the round of each holds, while nodes are read. -/
structure NI (x : List UInt8) (ls : List (List UInt8)) (p lo r s : Nat) (w : World) (k : Nat) (w' : World) : Prop where
  fld : Fld w' p lo ls (!nok x k)
  frm : Frm [p, s] w w'
  row : ∃ v, w'.heap[s]? = some (.cells #[v] 53 (0, 0)) ∧ w'.ownsRow w.heap.size 118 65 v k (nodesV (nodesN x k))
  box : w'.heap[r]? = some (.cells #[.pointer (some ⟨p, 0, none⟩)] 82 (0, 0))
theorem NI.step {x : List UInt8} {ls : List (List UInt8)} {p lo r s : Nat} {w : World} {k : Nat} {w' : World} (h : NI x ls p lo r s w k w') (hpr : p < r) (hrs : r < s) (hs : s < w.heap.size) (hx : x.length ≤ 1048576) (A : Option Addr) (c : Nat) (hk : k < x.length / 66) (hc : 66 ≤ c) (hr : RdI lo p w' A (bvs ((x.drop (k * 66)).take 66))) :
    Calls Try.prog 82 #[.slice A 66 c, .pointer (some ⟨r, 0, none⟩), .pointer (some ⟨s, 0, none⟩)] w' (fun e w'' => e = .returned (.tuple #[]) ∧ NI x ls p lo r s w (k + 1) w'') := by
  obtain ⟨v, h1, h2⟩ := h.row
  have hpl := h.fld.lt
  refine (nodes1_any A c lo p r s w.heap.size k _ v _ ls _ _ w' (by rw [List.length_take, List.length_drop]; omega) hr hc h.fld h.box h1 h2 (by omega) hs (by omega) h.frm.size (by omega)).mono ?_
  rintro e w'' ⟨rfl, h3, ⟨v', h4, h5⟩, h6⟩
  rw [(chunk_nodeAt x k).2] at h3
  rw [(chunk_nodeAt x k).1] at h5
  refine ⟨rfl, ?_, h.frm.frb h6, ⟨v', h4, ?_⟩, h6.heap h.box (by omega) (by simp; omega)⟩
  · rw [nok_succ, Bool.not_and, show (!decide (nodeN x k ≤ 256)) = decide (256 < nodeN x k) from by
      by_cases h9 : nodeN x k ≤ 256
      · rw [decide_eq_true h9, decide_eq_false (by omega)]; rfl
      · rw [decide_eq_false h9, decide_eq_true (by omega)]; rfl]
    exact h3
  · rw [nodesN_succ, nodesV_snoc]
    exact h5
def NodesF (x : List UInt8) (ls : List (List UInt8)) (bad : Bool) (p lo : Nat) (w : World) (e : Ending) (w' : World) : Prop :=
  ∃ A n c xs, e = .returned (.slice A n c) ∧ Fld w' p lo ls (bad || !nodesOK x) ∧ Frm [p] w w' ∧ w'.ownsRow w.heap.size 118 65 (.slice A n c) n xs ∧ ((bad || !nodesOK x) = false → n = (nodesOf x).length ∧ xs = nodesV (nodesOf x))
set_option maxRecDepth 100000 in
set_option maxHeartbeats 1000000 in
theorem nodesF_no (x : List UInt8) (ls : List (List UInt8)) (bad : Bool) (p lo : Nat) (w : World) (h : Fld w p lo (x :: ls) bad) (hb : (bad || !decide (x.length % 66 = 0)) = true) : Calls Try.prog 64 #[.pointer (some ⟨p, 0, none⟩)] w (NodesF x ls bad p lo w) := by
  have PL := Lib.hid h.lt
  obtain ⟨w1, hw1⟩ : ∃ w1, w1 = (w.alloc (.cells #[.pointer (some ⟨p, 0, none⟩)] 82)).alloc (.cells #[.slice none 0 0] 53) := ⟨_, rfl⟩
  have B0 : Hid (Below w.heap.size w w1) := by rw [hw1]; exact ((Below.refl _ w).alloc (Nat.le_refl _) _).alloc (by simp) _
  have F0 : Hid (Fld w1 p lo (x :: ls) bad) := h.keep (Frm.of_below (ps := []) B0.out) (by simp)
  have A0 : Hid (w1.heap[w.heap.size + 1]? = some (.cells #[.slice none 0 0] 53 (0, 0))) := by
    have h1 := heap_alloc_new (w.alloc (.cells #[.pointer (some ⟨p, 0, none⟩)] 82)) (.cells #[.slice none 0 0] 53)
    show _ = _
    rw [hw1]
    simpa using h1
  have hno : nodesOK x = false ∨ bad = true := by
    rcases Bool.or_eq_true _ _ ▸ hb with h9 | h9
    · exact .inr h9
    · left; unfold nodesOK; rw [show decide (x.length % 66 = 0) = false from by simpa using h9]; rfl
  have HB : Hid ((bad || !nodesOK x) = true) := by
    show _ = _
    rcases hno with h9 | h9 <;> simp [h9]
  have EA : Hid (∀ F, Calls Try.prog 62 #[.pointer (some ⟨p, 0, none⟩), .int .i64 66, F] w1 (EachNo ls p lo w1)) := fun F => by
    cases bad with
    | true => exact each_bad1 F 66 x ls p lo _ F0.out
    | false => exact each_bad2 F 66 66 rfl (by decide) x ls p lo _ F0.out (by simpa using hb)
  rw [hw1] at EA
  clear h hb hno
  go_enter Try.func64, Try.ntmps64
  go_wp2_with (go_at_call 62; go_must (refine (EA.out _).mono ?_; rintro e w2 ⟨rfl, hf, hfr⟩; rw [← hw1] at hfr; have F2 := Lib.hid hf; have M2 : Hid (Frm [p] w w2) := (Frm.of_below B0.out).trans hfr; have A2 := Lib.hid (hfr.heap A0.out (by simp; have h_ := PL.out; omega)); have e2 : w2.cell? ⟨w.heap.size + 1, 0, none⟩ = some (.slice none 0 0) := (by rw [cell_of_row w2 _ 0 _ _ _ A2.out]; rfl); clear hf hfr))
  go_ret
  exact ⟨none, 0, 0, [], rfl, by rw [HB.out]; exact F2.out, M2.out, World.ownsRow_nil _ _ _ 65, by rw [HB.out]; intro h; cases h⟩
set_option maxRecDepth 100000 in
set_option maxHeartbeats 1000000 in
theorem nodesF_yes (x : List UInt8) (ls : List (List UInt8)) (p lo : Nat) (w : World) (h : Fld w p lo (x :: ls) false) (hx : x.length ≤ 1048576) (hm : x.length % 66 = 0) : Calls Try.prog 64 #[.pointer (some ⟨p, 0, none⟩)] w (NodesF x ls false p lo w) := by
  have PL := Lib.hid h.lt
  obtain ⟨w1, hw1⟩ : ∃ w1, w1 = (w.alloc (.cells #[.pointer (some ⟨p, 0, none⟩)] 82)).alloc (.cells #[.slice none 0 0] 53) := ⟨_, rfl⟩
  have B0 : Hid (Below w.heap.size w w1) := by rw [hw1]; exact ((Below.refl _ w).alloc (Nat.le_refl _) _).alloc (by simp) _
  have F0 : Hid (Fld w1 p lo (x :: ls) false) := h.keep (Frm.of_below (ps := []) B0.out) (by simp)
  have S0 : Hid (w1.heap.size = w.heap.size + 2) := by rw [hw1]; show _ = _; simp
  have A0 : Hid (w1.heap[w.heap.size + 1]? = some (.cells #[.slice none 0 0] 53 (0, 0))) := by
    have h1 := heap_alloc_new (w.alloc (.cells #[.pointer (some ⟨p, 0, none⟩)] 82)) (.cells #[.slice none 0 0] 53)
    show _ = _
    rw [hw1]
    simpa using h1
  have R0 : Hid (w1.heap[w.heap.size]? = some (.cells #[.pointer (some ⟨p, 0, none⟩)] 82 (0, 0))) := by
    rw [hw1]
    show _ = _
    rw [Below.heap_alloc _ _ _ (by simp)]
    exact heap_alloc_new w _
  have HM := Lib.hid hm
  have EA : Hid (Calls Try.prog 62 #[.pointer (some ⟨p, 0, none⟩), .int .i64 66, .func (.func 82) #[] #[.pointer (some ⟨w.heap.size, 0, none⟩), .pointer (some ⟨w.heap.size + 1, 0, none⟩)]] w1 (fun e w' => e = .returned (.tuple #[]) ∧ NI x ls p lo w.heap.size (w.heap.size + 1) w1 (x.length / 66) w')) := by
    refine each66 x ls p lo w.heap.size (w.heap.size + 1) w1 F0.out hm (by omega) (fun k w' => NI x ls p lo w.heap.size (w.heap.size + 1) w1 k w') (fun w' hf hfr => ⟨hf, hfr.more (by simp), ⟨_, hfr.heap A0.out (by simp; have h_ := PL.out; omega), World.ownsRow_nil _ _ _ 65⟩, hfr.heap R0.out (by simp; have h_ := PL.out; omega)⟩) (fun k w' hI => ⟨_, hI.frm, by have h_ := PL.out; simp; omega⟩) (fun k w' A c hk hI hc hr => hI.step PL.out (Nat.lt_succ_self _) (by have h_ := S0.out; omega) hx A c hk hc hr)
  rw [hw1] at EA
  clear h hm hx
  go_enter Try.func64, Try.ntmps64
  go_wp2_with (go_at_call 62; go_must (refine EA.out.mono ?_; rintro e w2 ⟨rfl, hI⟩; rw [← hw1] at hI; obtain ⟨v, h1, h2⟩ := hI.row; obtain ⟨A, c, hv, _, _⟩ := ownR_form h2; subst hv; have e2 : w2.cell? ⟨w.heap.size + 1, 0, none⟩ = some (.slice A (x.length / 66) c) := (by rw [cell_of_row w2 _ 0 _ _ _ h1]; rfl); have O2 := Lib.hid h2; have I2 := Lib.hid hI; clear h1 h2 hI))
  go_ret
  refine ⟨A, x.length / 66, c, _, rfl, by rw [Bool.false_or, nodesOK_nok HM.out]; exact I2.out.fld, frm_drop ((Frm.of_below B0.out).trans I2.out.frm) (Nat.le_succ _), ownR_base O2.out B0.out.size, fun h9 => ?_⟩
  have h10 : nodesOK x = true := by simpa using h9
  unfold nodesOf
  rw [h10, if_pos rfl, nodesN_length]
  exact ⟨rfl, rfl⟩
theorem nodesF_any (x : List UInt8) (ls : List (List UInt8)) (bad : Bool) (p lo : Nat) (w : World) (h : Fld w p lo (x :: ls) bad) (hx : x.length ≤ 1048576) : Calls Try.prog 64 #[.pointer (some ⟨p, 0, none⟩)] w (NodesF x ls bad p lo w) := by
  cases hb : (bad || !decide (x.length % 66 = 0)) with
  | true => exact nodesF_no x ls bad p lo w h hb
  | false =>
    simp at hb
    obtain ⟨rfl, hm⟩ := hb
    exact nodesF_yes x ls p lo w h hx hm
end Go.Proofs.Ytbpgbihcihnieaa
