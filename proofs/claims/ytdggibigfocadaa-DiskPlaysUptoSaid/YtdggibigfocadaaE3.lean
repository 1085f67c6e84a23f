/- The walk of the reference's Write. No conditions. -/
import Derived.Test.YtdggibigfocadaaE2
namespace Go.Proofs.Ytdggibigfocadaa
open Go.RowKit
variable {w w' w0 : World} {base g : Nat} {own : Nat → Prop} {s : DS} {S P : Value}
def AfterE (base g : Nat) (own : Nat → Prop) (s : DS) (w w' : World) : Prop := ∃ own' S' P', Rdk w' base own' g s S' P' ∧ Turns own w w' ∧ ∀ k, own' k → own k ∨ w.heap.size ≤ k
def WritePostE (base g : Nat) (own : Nat → Prop) (s : DS) (n : Int) (d : List UInt8) (w : World) (e : Ending) (w' : World) : Prop := e = .returned (.int .i64 (s.write n d).1) ∧ AfterE base g own (s.write n d).2 w w'
theorem WritePostE.mk {n : Int} {d : List UInt8} {x : Int} {s' : DS} (he : s.write n d = (x, s')) (h : AfterE base g own s' w w') : WritePostE base g own s n d w (.returned (.int .i64 x)) w' := ⟨by rw [he], by rw [he]; exact h⟩
set_option maxRecDepth 100000 in
set_option maxHeartbeats 4000000 in
theorem RWrite_any (h : Rdk w base own g s S P) (hfo : FuseOk s) (n : Int) (d : List UInt8) (hd : d.length = 64) (hlen : (s.pend.length + 1) * 72 ≤ 140737488355328) :
    Calls Try.prog 21 #[.pointer (some ⟨g, 0, none⟩), .int .i64 n, .agg (bvs d).toArray] w (WritePostE base g own s n d w) := by
  obtain ⟨cs, hcs⟩ : ∃ cs, cs = (bvs d).toArray := ⟨_, rfl⟩
  rw [← hcs]
  have Hcs := Lib.hid hcs
  have hA : Rdk (w.alloc (.cells cs 28)) base own g s S P := h.below ((Below.refl _ _).alloc (Nat.le_refl _) _)
  clear hcs
  have f0 := hA.field (i := 0) rfl
  obtain ⟨AS, cS, hS⟩ := h.formS
  rw [hS] at f0
  clear hS
  by_cases hin : 0 ≤ n ∧ n < (s.secs.length : Int)
  · have hd0 : decide (n < 0) = false := decide_eq_false (by omega)
    have hd1 : decide ((s.secs.length : Int) ≤ n) = false := decide_eq_false (by omega)
    cases hop : s.op.1 with
    | false =>
      have Hop := Lib.hid hop
      clear hop
      go_enter Try.func21, Try.ntmps21
      go_wp2_with (go_at_call 31; go_must (refine (lost_any hA hfo).mono ?_; rintro e w2 ⟨rfl, hD, hT⟩; rw [Hop.out]; simp only [Bool.not_false]))
      go_ret
      exact WritePostE.mk (by unfold DS.write; rw [if_pos hin, if_neg (by rw [Hop.out]; simp)]) ⟨own, S, P, hD, (Turns.alloc _ _).trans hT, fun k hk => .inl hk⟩
    | true =>
      have Hop := Lib.hid hop
      clear hop
      obtain ⟨s2, hs2⟩ : ∃ s2, s.op.2 = s2 := ⟨_, rfl⟩
      have Hs2 := Lib.hid hs2
      have hpl : s2.pend.length = s.pend.length := by rw [← hs2, op_pend]
      have Hpl := Lib.hid hpl
      have hsl : s2.secs.length = s.secs.length := by rw [← hs2, op_secs]
      have Hsl := Lib.hid hsl
      clear hs2 hpl hsl
      cases hfu : s2.full with
      | true =>
        have Hfu := Lib.hid hfu
        clear hfu
        go_enter Try.func21, Try.ntmps21
        go_wp2_with (go_at_call 31; go_must (refine (lost_any hA hfo).mono ?_; rintro e w2 ⟨rfl, hD, hT⟩; rw [Hop.out]; simp only [Bool.not_true]; rw [Hs2.out] at hD; have f2 := hD.field (i := 2) rfl; rw [Hfu.out] at f2))
        go_ret
        exact WritePostE.mk (by unfold DS.write; rw [if_pos hin, if_pos Hop.out, Hs2.out, if_pos Hfu.out]) ⟨own, S, P, hD, (Turns.alloc _ _).trans hT, fun k hk => .inl hk⟩
      | false =>
        have Hfu := Lib.hid hfu
        clear hfu
        go_enter Try.func21, Try.ntmps21
        go_wp2_with (go_at_call 31; go_must (refine (lost_any hA hfo).mono ?_; rintro e w2 ⟨rfl, hD, hT⟩; rw [Hop.out]; simp only [Bool.not_true]; rw [Hs2.out] at hD; have f2 := hD.field (i := 2) rfl; rw [Hfu.out] at f2))
        · have hnown : ¬ own w.heap.size := fun e => by have := (h.bnd _ e).2; omega
          have hrg : w2.rangeAt w.heap.size 0 (bvs d) := fun j v hv => by
            rw [World.cell?_of_block (w := w.alloc (.cells cs 28)) (a := ⟨w.heap.size, 0 + j, none⟩) (hT.block _ (by simp) hnown), Nat.zero_add, cell_new, Hcs.out]
            simpa using hv
          have hb0 : w.heap.size < w2.heap.size := by have := hT.size; simp at this; omega
          have Hd := Lib.hid hd
          clear hd
          refine AnyZ.start [9, 12] (by kernel_rfl) rfl ?_
          apply AnyZ.pure (i := 0) rfl (by kernel_rfl) rfl rfl
          · intro w' K hK
            go_wp2
            exact hK
          · rfl
          apply AnyZ.pure (i := 1) rfl (by kernel_rfl) rfl rfl
          · intro w' K hK
            go_wp2
            exact hK
          · rfl
          apply AnyZ.pure (i := 2) rfl (by kernel_rfl) rfl rfl
          · intro w' K hK
            go_wp2
            exact hK
          · rfl
          apply AnyZ.pure (i := 3) rfl (by kernel_rfl) rfl rfl
          · intro w' K hK
            go_wp2
            exact hK
          · rfl
          apply AnyZ.take (i := 4) rfl (by kernel_rfl) (by kernel_rfl) rfl
          · intro w' hC K hK
            have f1 := (hD.below hC).field (i := 1) rfl
            go_wp2
            exact hK
          · rfl
          apply AnyZ.pure (i := 5) rfl (by kernel_rfl) rfl rfl
          · intro w' K hK
            go_wp2
            exact hK
          · rfl
          apply AnyZ.take (i := 6) rfl (by kernel_rfl) (by kernel_rfl) rfl
          · intro w' hC K hK
            refine wpList_load_mid rfl _ _ rfl w.heap.size 0 rfl (bvs d) _ (fun j v hv => (hC.cell (p := ⟨w.heap.size, 0 + j, none⟩) hb0).trans (hrg j v hv)) Try.underlying28 rfl (by rw [bvs_length, Hd.out]; kernel_rfl) ?_
            exact hK
          · rfl
          apply AnyZ.pure (i := 7) rfl (by kernel_rfl) rfl rfl
          · intro w' K hK
            refine buildE (x := .tmp 29) (y := .tmp 30) (n := n) (d := d) rfl rfl rfl rfl Hd.out ?_
            exact hK
          · rfl
          apply AnyZ.solo (i := 8) rfl (by kernel_rfl)
          intro w3 hC3
          refine sliceE (x := .tmp 31) rfl rfl rfl (by rw [List.length_cons, bvs_length, Hd.out]) ?_
          refine ⟨rfl, hC3.trans ((Below.refl _ _).alloc hC3.size _), ?_⟩
          apply AnyZ.soloW (i := 9) rfl (by kernel_rfl)
          intro w4 hC4
          have hD4 : Rdk w4 base own g s2 S P := (hD.below hC3).below (((Below.refl _ _).alloc (Nat.le_refl _) _).trans (hC4.mono (by simp)))
          have hT4 : Turns own w2 w4 := (Turns.of_below hC3).trans ((Turns.alloc _ _).trans (Turns.of_below hC4))
          have hR4 : Reads w4 (w3.heap.size + 1) 65 (some ⟨w3.heap.size, 0, none⟩) 1 (cellsP [(n.toNat, d)]) := by
            refine ⟨by simp [cellsP, bvs_length, Hd.out], fun _ => ⟨_, rfl, Nat.lt_succ_self _, fun j u hu => ?_⟩⟩
            rw [add_none]
            refine (hC4.cell (by simp)).trans ?_
            rw [Nat.zero_add, cell_new]
            have hn0 : ((n.toNat : Nat) : Int) = n := Int.toNat_of_nonneg hin.1
            have hcl : cellsP [(n.toNat, d)] = .int .i64 n :: bvs d := by simp [cellsP, hn0]
            rw [hcl] at hu
            simpa using hu
          refine appE (s := .tmp 28) (x := .tmp 32) (p := (n.toNat, d)) (B := w3.heap.size + 1) rfl rfl rfl rfl hD4.rowP hR4 (by have := Hpl.out; omega) (Nat.le_trans (h.bnd _ h.ownG).1 (by have := h.lt; have := hT4.size; omega)) ?_
          intro v5 w5 hrow5 hg5 hx5
          have hR5 := hD4.repend hg5 hrow5 (.inr hx5) (by
            intro p hp
            rcases List.mem_append.1 hp with hp | hp
            · exact hD4.ok.pend p hp
            · rw [List.mem_singleton.1 hp]
              refine ⟨?_, Hd.out⟩
              have h1 := hin.1
              have h2 := hin.2
              rw [Hsl.out]
              simp only
              omega)
          have hfz5 : w5.frozen? ⟨g, 1, none⟩ = false := (World.frozen?_of_block (a := ⟨g, 1, none⟩) (hg5.block g hD4.lt (fun e => hD4.gP e.symm))).trans (hD4.unfrozen 1)
          have f5 : w5.cell? ⟨g, 1, none⟩ = some P := (World.cell?_of_block (a := ⟨g, 1, none⟩) (hg5.block g hD4.lt (fun e => hD4.gP e.symm))).trans (hD4.field (i := 1) rfl)
          have hln : (s2.pend ++ [(n.toNat, d)]).length = s2.pend.length + 1 := by simp
          obtain ⟨g5, c5, he5, -, -⟩ := hrow5.form (by simp)
          rw [hln] at he5
          subst he5
          have HR5 := Lib.hid hR5
          clear hR5 hrow5 hln hg5 hx5
          refine ⟨rfl, ?_⟩
          apply AnyW.pure (i := 10) rfl (by kernel_rfl) rfl rfl
          · intro w' K hK
            go_wp2
            exact hK
          · rfl
          apply AnyW.pure (i := 11) rfl (by kernel_rfl) rfl rfl
          · intro w' K hK
            go_wp2
            exact hK
          · rfl
          apply AnyW.solo (i := 12) rfl (by kernel_rfl)
          go_wp2
          refine ⟨rfl, ?_⟩
          apply AnyW.done (by kernel_rfl)
          go_wp2
          go_ret
          refine WritePostE.mk (by unfold DS.write; rw [if_pos hin, if_pos Hop.out, Hs2.out, if_neg (by rw [Hfu.out]; simp)]) ?_
          obtain ⟨hD6, hT6, ho6⟩ := HR5.out
          exact ⟨_, _, _, hD6, ((Turns.alloc _ _).trans (hT.trans (hT4.trans hT6))), fun k hk => (ho6 k hk).imp id fun hk => by have := (hT.trans hT4).size; simp at this; omega⟩
  · have Hin := Lib.hid hin
    have HA := Lib.hid hA
    by_cases hn : n < 0
    · have hd0 : decide (n < 0) = true := decide_eq_true hn
      clear hin hA
      go_enter Try.func21, Try.ntmps21
      go_wp2
      go_ret
      exact WritePostE.mk (by unfold DS.write; rw [if_neg Hin.out]) ⟨own, S, P, HA.out, Turns.alloc _ _, fun k hk => .inl hk⟩
    · have hd0 : decide (n < 0) = false := decide_eq_false hn
      have hd1 : decide ((s.secs.length : Int) ≤ n) = true := decide_eq_true (by omega)
      clear hin hA
      go_enter Try.func21, Try.ntmps21
      go_wp2
      go_ret
      exact WritePostE.mk (by unfold DS.write; rw [if_neg Hin.out]) ⟨own, S, P, HA.out, Turns.alloc _ _, fun k hk => .inl hk⟩
end Go.Proofs.Ytdggibigfocadaa
