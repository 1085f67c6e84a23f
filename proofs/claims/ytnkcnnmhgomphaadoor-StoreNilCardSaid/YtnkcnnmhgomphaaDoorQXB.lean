/- The texts X3 X4 of this work, merged by wip/merge.py. No conditions. -/
import Derived.Test.YtnkcnnmhgomphaaDoorQXA
import Derived.MapKept
import Derived.WideMake
namespace Go.Proofs.YtnkcnnmhgomphaaDoor
open Go.RowKit
/-- The table's only entry. -/
def ent : MapEntry := ⟨.string ⟨#[107]⟩, .string ⟨#[118]⟩, 0⟩
theorem upd1 {w : World} {m : Nat} (hb : w.heap[m]? = some (.map #[] 0)) : (Instr.mapUpdate 41 (.map (some m)) (.string ⟨#[107]⟩) (.string ⟨#[118]⟩)).run Tryd.prog w = .ok () { w with heap := w.heap.setIfInBounds m (.map #[ent] 1) } := by
  have hk : Go.MapKept.IsKey .string (.string ⟨#[107]⟩) := trivial
  have h1 : Instr.findNow .string (.string ⟨#[107]⟩) [] 0 = some none := rfl
  simp [Instr.mapUpdate, run_underlying Tryd.underlying41, MapKept.run_getObj_map hb, MapKept.run_checkKey Tryd.underlying9 hk, MapKept.run_findKey Tryd.underlying9 h1, MapKept.run_setObj_map _ hb, Result.andThen, ent]
theorem look1 {w : World} {m : Nat} (hb : w.heap[m]? = some (.map #[ent] 1)) : (Instr.lookup 41 (.map (some m)) (.string ⟨#[107]⟩) true).run Tryd.prog w = .ok (.tuple #[.string ⟨#[118]⟩, .bool true]) w := by
  have hk : Go.MapKept.IsKey .string (.string ⟨#[107]⟩) := trivial
  have h1 : Instr.findNow .string (.string ⟨#[107]⟩) [ent] 0 = some (some (0, .string ⟨#[118]⟩)) := by rfl
  simp [Instr.lookup, run_underlying Tryd.underlying41, MapKept.run_getObj_map hb, MapKept.run_checkKey Tryd.underlying9 hk, MapKept.run_findKey Tryd.underlying9 h1, Result.andThen]
/-- The store in memory. -/
def StoreAt (w : World) (gs gl m : Nat) : Prop := w.heap[gs]? = some (.cells #[.pointer (some ⟨gl, 0, none⟩), .map (some m)] 43 (0, 0))
theorem StoreAt.cells {w : World} {gs gl m : Nat} (h : StoreAt w gs gl m) : w.cell? ⟨gs, 0, none⟩ = some (.pointer (some ⟨gl, 0, none⟩)) ∧ w.cell? ⟨gs, 1, none⟩ = some (.map (some m)) :=
  ⟨cell_of_row _ _ _ _ _ _ h, cell_of_row _ _ _ _ _ _ h⟩
set_option maxRecDepth 100000 in
set_option maxHeartbeats 1000000 in
theorem Get_kv (gs gl m : Nat) (w : World) (hs : StoreAt w gs gl m) (hb : w.heap[m]? = some (.map #[ent] 1)) : Calls Tryd.prog 5 #[.pointer (some ⟨gs, 0, none⟩), .string ⟨#[107]⟩] w fun e w' => e = .returned (.tuple #[.string ⟨#[118]⟩, .bool true]) ∧ w' = w := by
  obtain ⟨c0, c1⟩ := hs.cells
  have hl := look1 hb
  go_enter Tryd.func5, Tryd.ntmps5
  go_wp2
  go_ret2
  exact ⟨rfl, rfl⟩
theorem Get_nil (v : Value) (w : World) : Calls Tryd.prog 5 #[.pointer none, v] w fun e w' => e = .returned (.tuple #[.string ⟨#[]⟩, .bool false]) ∧ w' = w := by
  go_enter Tryd.func5, Tryd.ntmps5
  go_wp2
  go_ret2
  exact ⟨rfl, rfl⟩
theorem Size_nil (w : World) : Calls Tryd.prog 7 #[.pointer none] w fun e w' => e = .returned (.int .i64 0) ∧ w' = w := by
  go_enter Tryd.func7, Tryd.ntmps7
  go_wp2
  go_ret
  exact ⟨rfl, rfl⟩
theorem Keys_nil (a b : Value) (w : World) : Calls Tryd.prog 8 #[.pointer none, a, b] w fun e w' => e = .returned (.slice none 0 0) ∧ w' = w := by
  go_enter Tryd.func8, Tryd.ntmps8
  go_wp2
  go_ret
  exact ⟨rfl, rfl⟩
theorem Apply_nil (v : Value) (w : World) : Calls Tryd.prog 9 #[.pointer none, v] w fun e w' => e = .returned (.int .i64 1) ∧ w' = w := by
  go_enter Tryd.func9, Tryd.ntmps9
  go_wp2
  go_ret
  exact ⟨rfl, rfl⟩
set_option maxRecDepth 100000 in
set_option maxHeartbeats 1000000 in
theorem apply_kv (b m : Nat) (w : World) (hb : BatchAt w b) (hm : w.heap[m]? = some (.map #[] 0)) : Calls Tryd.prog 13 #[.map (some m), .slice (some ⟨b, 0, none⟩) 1 1] w fun e w' => e = .returned (.tuple #[]) ∧ w'.heap[m]? = some (.map #[ent] 1) ∧ Turns (fun k => k = m) w w' := by
  have HB := Lib.hid hb
  have hne : b ≠ m := by rintro rfl; rw [hb] at hm; cases hm
  have HM := Lib.hid hm
  have HNE := Lib.hid hne
  clear hb hm hne
  go_enter Tryd.func13, Tryd.ntmps13
  go_wp2
  go_loopw [8] (fun i wr => ∃ k : Nat, k ≤ 1 ∧ i = .int .i64 (k : Int) ∧ Hid (Turns (fun j => j = m) w wr ∧ (k = 0 → wr.heap[m]? = some (.map #[] 0)) ∧ (k = 1 → wr.heap[m]? = some (.map #[ent] 1)))) (fun i _ => 1 - (intOf i).toNat)
  case atStart => exact ⟨0, Nat.zero_le _, rfl, Turns.refl _ _, fun _ => HM.out, fun h => by cases h⟩
  case round =>
    obtain ⟨k, hk, rfl, hW⟩ := hrel
    by_cases hlt : k < 1
    · have hlt' : (k : Int) < 1 := by omega
      obtain rfl : k = 0 := by omega
      have HBW : Hid (BatchAt wr b) := (hW.out.1.block b (by have h_ := HB.out; exact held_lt h_) HNE.out).trans HB.out
      obtain ⟨c0, c1, c2⟩ := HBW.out.cells
      have hup := fun (o : Obj) => upd1 (w := wr.alloc o) (m := m) (((Below.refl _ _).alloc (Nat.le_refl _) o).block m (held_lt (hW.out.2.1 rfl)) |>.trans (hW.out.2.1 rfl))
      go_wp2
      go_roundw
      case rel =>
        refine ⟨1, by omega, by go_num, ?_⟩
        have h1 := hW.out.1
        have hlt : m < wr.heap.size := held_lt (hW.out.2.1 rfl)
        refine ⟨⟨h1.os, h1.tape, h1.output, ?_, fun j hj hjm => ?_⟩, fun h => absurd h (by decide), fun _ => ?_⟩
        · have := h1.size; simp; omega
        · have h2 := h1.size
          refine Eq.trans ?_ (h1.block j hj hjm)
          rw [Array.getElem?_setIfInBounds_ne (fun e => hjm e.symm)]
          exact ((Below.refl _ _).alloc (Nat.le_refl _) _).block j (Nat.lt_of_lt_of_le hj h2)
        · rw [Array.getElem?_setIfInBounds_self_of_lt (by simp; omega)]
      case measure => simp [intOf]
    · obtain rfl : k = 1 := by omega
      go_wp2
      first
        | go_end0
        | (refine bodyPost_ret (results_none rfl _ _ _) rfl ?_)
      exact ⟨rfl, hW.out.2.2 trivial, hW.out.1⟩
end Go.Proofs.YtnkcnnmhgomphaaDoor

namespace Go.Proofs.YtnkcnnmhgomphaaDoor
open Go.RowKit
def OpenS (base : Nat) (od : Nat → Prop) (gd : Nat) (s : DS) (w : World) (e : Ending) (w' : World) : Prop :=
  ∃ gs gl m own, e = .returned (.tuple #[.pointer (some ⟨gs, 0, none⟩), .int .i64 0]) ∧ LG w' base own gd gl s ((1 : Nat) : Int) [] ∧ StoreAt w' gs gl m ∧ w'.heap[m]? = some (.map #[] 0) ∧ Below w.heap.size w w' ∧ w.heap.size ≤ gs ∧ w.heap.size ≤ m ∧ gs ≠ m ∧ ¬ own gs ∧ ¬ own m ∧ ∀ k, own k → od k ∨ w.heap.size ≤ k
theorem buildStore (gl m : Nat) : Tryd.prog.built 43 [(0, .pointer (some ⟨gl, 0, none⟩)), (1, .map (some m))] = some #[.pointer (some ⟨gl, 0, none⟩), .map (some m)] := by kernel_rfl
set_option maxRecDepth 100000 in
set_option maxHeartbeats 1000000 in
theorem OpenS_any {w : World} {base gd : Nat} {od : Nat → Prop} {N : Nat} {S P : Value} (h : Dsk w base od gd (dst (List.replicate N zero64) false 0) S P) (hb : base ≤ w.heap.size) (K : List Int) (hN : 64 ≤ N) (hkt : KT w K) :
    Calls Tryd.prog 6 #[.pointer (some ⟨gd, 0, none⟩)] w (OpenS base od gd (dst (List.replicate N zero64) false 0) w) := by
  have H := Lib.hid h
  have HN := Lib.hid hN
  have HBs := Lib.hid hb
  have HK := Lib.hid hkt
  have hbs := buildStore
  have hmk := fun w => run_makeMap (P := Tryd.prog) 41 w
  clear h hb hN hkt
  go_enter Tryd.func6, Tryd.ntmps6
  go_wp2_with (first
    | (go_at_call 11; go_must (refine (Open_any H.out HBs.out K 1 [] (Lay.fresh K N (by have := HN.out; omega)) (by simp) (by simp; exact HN.out) (by simp) HK.out).mono ?_; rintro e w1 ⟨gl, own, rfl, hL, hb1, ho⟩; have H1 := Lib.hid (And.intro hL (And.intro hb1 ho)); clear hL hb1 ho))
    | (go_at_call 12; go_must (refine (Records_any (H1.out.1.below (((Below.refl _ _).alloc (Nat.le_refl _) (.map #[] 0)).alloc (by simp) (.cells #[.pointer (some ⟨gl, 0, none⟩), .map (some w1.heap.size)] 43))) (by simp) (by simp)).mono ?_; rintro e w3 ⟨v3, rfl, hv3, hb3⟩; obtain ⟨A3, c3, rfl, _, _⟩ := hv3.lists; rw [List.length_nil]; have H3 := Lib.hid hb3; clear hv3 hb3)))
  go_loopw [24] (fun i wr => i = .int .i64 0 ∧ Hid (wr = w3)) (fun _ _ => 0)
  case atStart => exact ⟨rfl, rfl⟩
  obtain ⟨rfl, hwr⟩ := hrel
  have hwr' := hwr.out
  subst hwr'
  go_wp2
  go_ret2
  have hA : Below w1.heap.size w1 (w1.alloc (.map #[] 0)) := (Below.refl _ _).alloc (Nat.le_refl _) _
  have hsz : (w1.alloc (.map #[] 0)).heap.size = w1.heap.size + 1 := by simp
  have hm : (w1.alloc (.map #[] 0)).heap[w1.heap.size]? = some (.map #[] 0) := heap_alloc_new w1 _
  obtain ⟨W1, hW1⟩ : ∃ x, w1.alloc (.map #[] 0) = x := ⟨_, rfl⟩
  have h3 := H3.out
  rw [hW1] at hA hsz hm h3
  have hB : Below W1.heap.size W1 (W1.alloc (.cells #[.pointer (some ⟨gl, 0, none⟩), .map (some w1.heap.size)] 43)) := (Below.refl _ _).alloc (Nat.le_refl _) _
  have hs : (W1.alloc (.cells #[.pointer (some ⟨gl, 0, none⟩), .map (some w1.heap.size)] 43)).heap[W1.heap.size]? = some (.cells #[.pointer (some ⟨gl, 0, none⟩), .map (some w1.heap.size)] 43 (0, 0)) := heap_alloc_new W1 _
  have hsz2 : (W1.alloc (.cells #[.pointer (some ⟨gl, 0, none⟩), .map (some w1.heap.size)] 43)).heap.size = W1.heap.size + 1 := by simp
  obtain ⟨W2, hW2⟩ : ∃ x, W1.alloc (.cells #[.pointer (some ⟨gl, 0, none⟩), .map (some w1.heap.size)] 43) = x := ⟨_, rfl⟩
  rw [hW2] at hB hs hsz2 h3
  have h12 : Below w1.heap.size w1 wr := hA.trans ((hB.trans (h3.mono hB.size)).mono hA.size)
  have h1 := H1.out.2.1.size
  refine ⟨w1.heap.size + 1, gl, w1.heap.size, own, rfl, H1.out.1.below h12, ?_, ?_, H1.out.2.1.trans (h12.mono h1), by omega, h1, by omega, fun e => ?_, fun e => ?_, H1.out.2.2⟩
  · show wr.heap[w1.heap.size + 1]? = _
    rw [← hsz]
    exact (h3.block _ (by omega)).trans hs
  · exact (h3.block _ (by omega)).trans ((hB.block _ (by omega)).trans hm)
  · have := H1.out.1.lt e; omega
  · have := H1.out.1.lt e; omega
end Go.Proofs.YtnkcnnmhgomphaaDoor
