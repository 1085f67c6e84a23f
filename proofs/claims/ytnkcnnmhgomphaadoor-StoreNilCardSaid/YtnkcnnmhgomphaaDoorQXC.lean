/- The texts X5 X6 of this work, merged by wip/merge.py. No conditions. -/
import Derived.Test.YtnkcnnmhgomphaaDoorQXB
import Derived.Test.YtnkcnnmhgomphaaDoorQAR
namespace Go.Proofs.YtnkcnnmhgomphaaDoor
open Go.RowKit
theorem own8_some {w : World} {base n : Nat} {v : Value} {l : List UInt8} (h : Own8 w base v l) (hl : l.length = n) (hn : 0 < n) : ∃ g c, v = .slice (some ⟨g, 0, none⟩) n c ∧ base ≤ g ∧ g < w.heap.size ∧ n ≤ c := by
  subst hl; exact row_slice h hn
theorem app_128 (K : List Int) (l : List UInt8) (h : l.length ≤ 1000) : appV K (List.replicate 128 zero64) false 1 [] l = (0, syncAll (List.replicate 128 zero64) (placeL 1 (frameS K 0 l)), 1 + secsN l.length, [l]) := by
  unfold appV
  rw [if_neg (by omega), if_neg (by rw [List.length_replicate]; unfold secsN; rintro (h | h); omega; cases h)]
  rfl
set_option maxRecDepth 100000 in
set_option maxHeartbeats 2000000 in
theorem Apply_kv {w : World} {base gd gl gs m b : Nat} {own : Nat → Prop} (hL : LG w base own gd gl (dst (List.replicate 128 zero64) false 0) ((1 : Nat) : Int) []) (hs : StoreAt w gs gl m) (hm : w.heap[m]? = some (.map #[] 0)) (hB : BatchAt w b) (hgs : ¬ own gs) (hom : ¬ own m) (hob : ¬ own b) (K : List Int) (hkt : KT w K) (hbase : 0 < base) :
    Calls Tryd.prog 9 #[.pointer (some ⟨gs, 0, none⟩), .slice (some ⟨b, 0, none⟩) 1 1] w fun e w' => e = .returned (.int .i64 0) ∧ StoreAt w' gs gl m ∧ w'.heap[m]? = some (.map #[ent] 1) ∧ Turns (fun k => own k ∨ k = m) w w' := by
  have HL := Lib.hid hL
  have HS := Lib.hid hs
  have HM := Lib.hid hm
  have HB := Lib.hid hB
  have HGS := Lib.hid hgs
  have HOM := Lib.hid hom
  have HOB := Lib.hid hob
  have HK := Lib.hid hkt
  have HBA := Lib.hid hbase
  have hsm : gs ≠ m := by rintro rfl; unfold StoreAt at hs; rw [hs] at hm; cases hm
  have HSM := Lib.hid hsm
  clear hL hs hm hB hgs hom hob hkt hsm hbase
  go_enter Tryd.func9, Tryd.ntmps9
  go_wp2_with (first
    | (go_at_call 16; go_must (refine (right_kv b w HB.out).mono ?_; rintro e w1 ⟨rfl, hb1⟩; have H1 := Lib.hid hb1; clear hb1)))
  refine AnyC.startB (fun w' => Turns own w w') (by kernel_rfl) rfl ?_
  intro w2 hb2 _
  have H2 : Hid (Below w.heap.size w w2) := H1.out.trans (hb2.mono H1.out.size)
  have HT2 : Hid (Turns own w w2) := Turns.of_below H2.out
  clear hb2
  have CS : Hid (∀ w', Turns own w w' → w'.cell? ⟨gs, 0, none⟩ = some (.pointer (some ⟨gl, 0, none⟩))) := fun w' hT => (World.cell?_of_block (a := ⟨gs, 0, none⟩) (hT.block gs (held_lt (show w.heap[gs]? = _ from HS.out)) HGS.out)).trans HS.out.cells.1
  apply AnyC.take (i := 0) rfl (by kernel_rfl) rfl
  · intro w' hC K hK
    go_wp2
    exact hK
  · rfl
  apply AnyC.take (i := 1) rfl (by kernel_rfl) rfl
  · intro w' hC K hK
    go_wp2
    exact hK
  · rfl
  apply AnyC.take (i := 2) rfl (by kernel_rfl) rfl
  · intro w' hC K hK
    go_wp2
    exact hK
  · rfl
  apply AnyC.take (i := 3) rfl (by kernel_rfl) rfl
  · intro w' hC K hK
    have cc := CS.out w' hC
    go_wp2
    exact hK
  · rfl
  apply AnyC.take (i := 4) rfl (by kernel_rfl) rfl
  · intro w' hC K hK
    go_wp2
    exact hK
  · rfl
  apply AnyC.solo (i := 5) rfl (by kernel_rfl) HT2.out
  go_wp2_with (go_at_call 18; go_must (refine (record_kv b w2 (HB.out.bel H2.out)).mono ?_; rintro e w3 ⟨v3, rfl, ho3, hb3⟩; have H3 := Lib.hid (And.intro ho3 hb3); clear ho3 hb3))
  refine ⟨rfl, ?_⟩
  obtain ⟨A3, c3, rfl, hc3, hr3⟩ := own8_form' H3.out.1 (n := 12) (by decide +kernel)
  have HB3 : Hid (Below w.heap.size w w3) := H2.out.trans (H3.out.2.mono H2.out.size)
  have HR3 := Lib.hid (And.intro hc3 hr3)
  clear hc3 hr3
  have HV : Hid (appV K (List.replicate 128 zero64) false 1 [] (encB [one4]) = (0, syncAll (List.replicate 128 zero64) (placeL 1 (frameS K 0 (encB [one4]))), 1 + secsN (encB [one4]).length, [encB [one4]])) := app_128 K _ (by decide +kernel)
  have HA : Hid (∀ ad, A3 = some ad → ad.block < w3.heap.size ∧ ¬ own ad.block) := by
    show ∀ _, _
    intro ad e
    obtain ⟨g_, c_, e2, h1, h2, _⟩ := own8_some H3.out.1 (n := 12) (by decide +kernel) (by decide)
    cases e2
    cases e
    exact ⟨h2, fun h_ => Nat.lt_irrefl _ (Nat.lt_of_lt_of_le (HL.out.lt h_) (Nat.le_trans H2.out.size h1))⟩
  apply AnyC.solo (i := 6) rfl (by kernel_rfl) (Turns.of_below HB3.out)
  go_wp2_with (go_at_call 17; go_must (refine (Append_any (HL.out.below HB3.out) K A3 12 c3 (encB [one4]) HR3.out.2 (fun _ ad e_ => HA.out ad e_) HR3.out.1 (by simp) (by omega) (HK.out.bel HB3.out)).mono ?_; rintro e w4 ⟨f4, rfl, own4, hL4, hT4, hO4⟩; rw [HV.out] at hL4 ⊢; have HT4 : Hid (Turns own w w4) := (by show Turns _ _ _; exact (Turns.of_below HB3.out).trans hT4); clear hL4 hT4 hO4))
  refine ⟨rfl, ?_⟩
  apply AnyC.solo (i := 7) rfl (by kernel_rfl) HT4.out
  go_wp2
  refine ⟨rfl, ?_⟩
  refine AnyC.done HT4.out (by kernel_rfl) ?_
  have CM : Hid (w4.heap[m]? = some (.map #[] 0)) := (HT4.out.block m (held_lt HM.out) HOM.out).trans HM.out
  have CB : Hid (BatchAt w4 b) := (HT4.out.block b (held_lt (show w.heap[b]? = _ from HB.out)) HOB.out).trans HB.out
  have CS4 : Hid (StoreAt w4 gs gl m) := (HT4.out.block gs (held_lt (show w.heap[gs]? = _ from HS.out)) HGS.out).trans HS.out
  obtain ⟨cc0, cc1⟩ := CS4.out.cells
  go_wp2_with (go_at_call 13; go_must (refine (apply_kv b m w4 CB.out CM.out).mono ?_; rintro e w5 ⟨rfl, hm5, hT5⟩; have H5 := Lib.hid (And.intro hm5 hT5); clear hm5 hT5))
  go_ret
  refine ⟨rfl, (H5.out.2.block gs (held_lt (show w4.heap[gs]? = _ from CS4.out)) HSM.out).trans CS4.out, H5.out.1, (HT4.out.more (fun k h => .inl h)).trans (H5.out.2.more (fun k h => .inr h))⟩
end Go.Proofs.YtnkcnnmhgomphaaDoor

namespace Go.Proofs.YtnkcnnmhgomphaaDoor
open Go.RowKit
theorem OpenS_nil (w : World) : Calls Tryd.prog 6 #[.pointer none] w fun e w' => e = .returned (.tuple #[.pointer none, .int .i64 1]) ∧ w' = w := by
  go_enter Tryd.func6, Tryd.ntmps6
  go_wp2_with (go_at_call 11; go_must (refine (Open_nil _).mono ?_; rintro e w_ ⟨rfl, hw_⟩; have hw_ := hw_.symm; subst hw_))
  go_ret2
  exact ⟨rfl, rfl⟩
theorem buildChg : Tryd.prog.built 38 [(0, .string ⟨#[107]⟩), (1, .string ⟨#[118]⟩)] = some #[.string ⟨#[107]⟩, .string ⟨#[118]⟩, .bool false] := by kernel_rfl
set_option maxRecDepth 100000 in
set_option maxHeartbeats 2000000 in
theorem awake10_any (K : List Int) (w : World) (hkt : KT w K) : Calls Tryd.prog 4 #[] w fun e w' => e = .returned (.bool true) ∧ Below w.heap.size w w' := by
  have HK := Lib.hid hkt
  have hbc := buildChg
  clear hkt
  go_enter Tryd.func4, Tryd.ntmps4
  go_wp2_with (first
    | (go_at_call 10; go_must (refine (New_dsk 128 (by omega) (by omega) _).mono ?_; rintro e w1 ⟨gd, S, P, od, rfl, hD, hb⟩; have H1 := Lib.hid (And.intro hD hb); clear hD hb))
    | (go_at_call 6; go_must (refine (OpenS_any (N := 128) H1.out.1 H1.out.2.size K (by omega) (HK.out.bel H1.out.2)).mono ?_; rintro e w2 ⟨gs, gl, m, own, rfl, hO⟩; have H2 := Lib.hid hO; clear hO))
    | (go_at_call 9; go_must (refine (Apply_kv (H2.out.1.below ((Below.refl _ _).alloc (Nat.le_refl _) _)) (heap_below (show w2.heap[gs]? = _ from H2.out.2.1) ((Below.refl _ _).alloc (Nat.le_refl _) _)) (heap_below H2.out.2.2.1 ((Below.refl _ _).alloc (Nat.le_refl _) _)) (heap_alloc_new w2 _) H2.out.2.2.2.2.2.2.2.1 H2.out.2.2.2.2.2.2.2.2.1 (fun h_ => Nat.lt_irrefl _ (H2.out.1.lt h_)) K (HK.out.bel ((H1.out.2.trans (H2.out.2.2.2.1.mono H1.out.2.size)).alloc (Nat.le_trans H1.out.2.size H2.out.2.2.2.1.size) _)) HK.out.1).mono ?_; rintro e w3 ⟨rfl, hs3, hm3, hT3⟩; have H3 := Lib.hid (And.intro hs3 (And.intro hm3 hT3)); clear hs3 hm3 hT3))
    | (go_at_call 5; go_must (refine (Get_kv gs gl m w3 H3.out.1 H3.out.2.1).mono ?_; rintro e w_ ⟨rfl, hw_⟩; have hw_ := hw_.symm; subst hw_)))
  go_ret
  have h0 : Below w.heap.size w w2 := H1.out.2.trans (H2.out.2.2.2.1.mono H1.out.2.size)
  have h1 : Below w.heap.size w (w2.alloc (.cells #[.string ⟨#[107]⟩, .string ⟨#[118]⟩, .bool false] 38)) := h0.alloc h0.size _
  have hT := H3.out.2.2
  refine ⟨rfl, h1.trans ⟨hT.os, hT.tape, hT.output, hT.size, fun k hk => hT.block k (Nat.lt_of_lt_of_le hk h1.size) (fun h => ?_)⟩⟩
  rcases h with h | h
  · obtain ⟨_, _, _, _, _, hx⟩ := H2.out.1
    have := (hx.bnd k h).1
    omega
  · have h2 := H2.out.2.2.2.2.2.1
    have h3 := H1.out.2.size
    omega
set_option maxRecDepth 100000 in
set_option maxHeartbeats 2000000 in
theorem storeNil_walk (v0 : Value) (s : ByteArray) (w : World) (_a0 : ArgS v0 s) {K : List Int} (hkt : KT w K) : Calls Tryd.prog 3 #[v0] w fun e w' => e = .returned (.bool true) ∧ Below w.heap.size w w' := by
  have HK := Lib.hid hkt
  clear hkt _a0
  go_enter Tryd.func3, Tryd.ntmps3
  go_wp2_with (first
    | (go_at_call 4; go_must (refine (awake10_any K w HK.out).mono ?_; rintro e w1 ⟨rfl, hb⟩; have H1 := Lib.hid hb; clear hb))
    | (go_at_call 5; go_must (refine (Get_nil _ _).mono ?_; rintro e w_ ⟨rfl, hw_⟩; have hw_ := hw_.symm; subst hw_))
    | (go_at_call 6; go_must (refine (OpenS_nil _).mono ?_; rintro e w_ ⟨rfl, hw_⟩; have hw_ := hw_.symm; subst hw_))
    | (go_at_call 7; go_must (refine (Size_nil _).mono ?_; rintro e w_ ⟨rfl, hw_⟩; have hw_ := hw_.symm; subst hw_))
    | (go_at_call 8; go_must (refine (Keys_nil _ _ _).mono ?_; rintro e w_ ⟨rfl, hw_⟩; have hw_ := hw_.symm; subst hw_))
    | (go_at_call 9; go_must (refine (Apply_nil _ _).mono ?_; rintro e w_ ⟨rfl, hw_⟩; have hw_ := hw_.symm; subst hw_)))
  go_ret
  exact ⟨rfl, H1.out⟩
end Go.Proofs.YtnkcnnmhgomphaaDoor
