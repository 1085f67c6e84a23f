/- The walk of Sync. No conditions. -/
import Derived.Test.YtdggibigfocadaaD7
namespace Go.Proofs.Ytdggibigfocadaa
open Go.RowKit
variable {w w' : World} {base g : Nat} {own : Nat → Prop} {s : DS} {S P : Value}
def syncAll (l : List (List UInt8)) (ps : List (Nat × List UInt8)) : List (List UInt8) := ps.foldl (fun l p => l.set p.1 p.2) l
theorem syncAll_length : ∀ (ps : List (Nat × List UInt8)) (l : List (List UInt8)), (syncAll l ps).length = l.length
  | [], _ => rfl
  | _ :: ps, _ => (syncAll_length ps _).trans List.length_set
def DS.sync (s : DS) : Int × DS := if s.op.1 = true then (0, { s.op.2 with secs := syncAll s.op.2.secs s.op.2.pend, pend := [] }) else (9, s.op.2)
def SyncPost (base g : Nat) (own : Nat → Prop) (s : DS) (w : World) (e : Ending) (w' : World) : Prop := e = .returned (.int .i64 s.sync.1) ∧ After base g own s.sync.2 w w'
theorem SyncPost.mk {x : Int} {s' : DS} (he : s.sync = (x, s')) (h : After base g own s' w w') : SyncPost base g own s w (.returned (.int .i64 x)) w' := ⟨by rw [he], by rw [he]; exact h⟩
theorem one_pend (n : Int) (d : List UInt8) : ∀ u ∈ (Value.int .i64 n :: bvs d), u.oneCell' = true := by
  intro u hu
  rcases List.mem_cons.1 hu with rfl | hu
  · rfl
  · exact bvs_one _ u hu
theorem Dsk.secThere (h : Dsk w base own g s S P) {k gS c : Nat} (hS : S = .slice (some ⟨gS, 0, none⟩) s.secs.length c) (hk : k < s.secs.length) : w.there gS (k * 64) 64 := by
  obtain ⟨gS', c', hS', _, _, _, ht⟩ := h.secAt (List.getElem?_eq_getElem hk)
  rw [hS] at hS'
  injection hS' with e
  injection e with e
  injection e with e
  rw [e]
  exact ht
theorem Dsk.pendMax (h : Dsk w base own g s S P) : (s.pend.length : Int) ≤ 9223372036854775807 := by
  rcases h.rowP.2 with ⟨_, h0⟩ | ⟨_, cap, _, _, _, _, h1, h2, _⟩
  · rw [h0]; decide
  · have : s.pend.length ≤ maxLen := Nat.le_trans h1 h2
    simp only [maxLen] at this
    omega
/-- So much of the loop is done. -/
def DS.part (s : DS) (k : Nat) : DS := { s with secs := syncAll s.secs (s.pend.take k) }
theorem part_succ {s : DS} {k : Nat} {p : Nat × List UInt8} (hp : s.pend[k]? = some p) : s.part (k + 1) = { s.part k with secs := (s.part k).secs.set p.1 p.2 } := by
  have h1 : s.pend.take (k + 1) = s.pend.take k ++ [p] := by rw [List.take_add_one, hp]; rfl
  unfold DS.part syncAll
  rw [h1, List.foldl_append]
  rfl
set_option maxRecDepth 100000 in
set_option maxHeartbeats 4000000 in
theorem Sync_any (h : Dsk w base own g s S P) : Calls Try.prog 13 #[.pointer (some ⟨g, 0, none⟩)] w (SyncPost base g own s w) := by
  cases hop : s.op.1 with
  | false =>
    have Hop := Lib.hid hop
    clear hop
    go_enter Try.func13, Try.ntmps13
    go_wp2_with (go_at_call 30; go_must (refine (operation_any h).mono ?_; rintro e w2 ⟨rfl, hD, hT⟩; rw [Hop.out]))
    go_ret
    exact SyncPost.mk (by unfold DS.sync; rw [if_neg (by rw [Hop.out]; simp)]) ⟨own, S, P, hD, hT, fun k hk => .inl hk⟩
  | true =>
    have Hop := Lib.hid hop
    clear hop
    obtain ⟨s2, hs2⟩ : ∃ s2, s.op.2 = s2 := ⟨_, rfl⟩
    have Hs2 := Lib.hid hs2
    clear hs2
    go_enter Try.func13, Try.ntmps13
    go_wp2_with (go_at_call 30; go_must (refine (operation_any h).mono ?_; rintro e w2 ⟨rfl, hD, hT⟩; rw [Hop.out]; rw [Hs2.out] at hD; have f1 := hD.field (i := 1) rfl; obtain ⟨AP, cP, rfl⟩ := hD.formP))
    have hDo := Lib.hid hD
    have hTo := Lib.hid hT
    clear hD hT f1
    go_loopw [17] (fun i wr => ∃ k : Nat, k ≤ s2.pend.length ∧ i = .int .i64 k ∧ Hid (Dsk wr base own g (s2.part k) S (.slice AP s2.pend.length cP)) ∧ Hid (Turns own w wr)) (fun i _ => s2.pend.length - (intOf i).toNat)
    case atStart => exact ⟨0, Nat.zero_le _, rfl, hDo, hTo⟩
    case round =>
      obtain ⟨k, hk, rfl, hD, hT⟩ := hrel
      by_cases hlt : k < s2.pend.length
      · have hlt' : (k : Int) < (s2.pend.length : Int) := by omega
        have hk0 : (0 : Int) ≤ (k : Int) := by omega
        have hmx : (k : Int) + 1 ≤ 9223372036854775807 := by have := hD.out.pendMax; have e : (s2.part k).pend = s2.pend := rfl; rw [e] at this; omega
        obtain ⟨p, hp⟩ : ∃ p, s2.pend[k]? = some p := ⟨_, List.getElem?_eq_getElem hlt⟩
        obtain ⟨gP, c, hPe, hoP, hgP, hrP⟩ := hD.out.pendAt (k := k) (p := p) hp
        obtain ⟨rfl, rfl⟩ : AP = some ⟨gP, 0, none⟩ ∧ cP = c := by injection hPe; exact ⟨by assumption, by assumption⟩
        have hrP' := Lib.hid hrP
        clear hPe hrP hDo hTo
        obtain ⟨ps, hps⟩ : ∃ ps : Array Value, ps = (Value.int .i64 (p.1 : Int) :: bvs p.2).toArray := ⟨_, rfl⟩
        have Hps := Lib.hid hps
        have hpl : p.2.length = 64 := (hD.out.ok.pend p (List.mem_of_getElem? hp)).2
        have Hpl := Lib.hid hpl
        have hpsz : ps.size = 65 := by rw [hps, List.size_toArray, List.length_cons, bvs_length, hpl]
        have Hpsz := Lib.hid hpsz
        clear hps hpl hpsz
        obtain ⟨zp, hzp⟩ : ∃ zp : Array Value, zp = (Value.int .i64 0 :: bvs (List.replicate 64 0)).toArray := ⟨_, rfl⟩
        have hz56 : ∀ w, (zeroValue 56).run Try.prog w = .ok (.agg zp) w := fun w => by rw [hzp]; kernel_rfl
        have hzs : zp.size = 65 := by rw [hzp]; simp [bvs_length]
        have Hzs := Lib.hid hzs
        clear hzp hzs
        go_wp2_with (first
          | (refine wpList_load_mid rfl _ _ rfl gP (k * 65) rfl (Value.int .i64 (p.1 : Int) :: bvs p.2) _ hrP'.out Try.underlying56 rfl (by rw [List.length_cons, bvs_length, Hpl.out]; kernel_rfl) ?_; rw [← Hps.out])
          | (refine wpList_store_mid rfl _ _ _ rfl wr.heap.size 0 ps rfl rfl (by rw [Hpsz.out]; exact there_new wr _ _ 65 (by rw [Hzs.out]; exact Nat.le_refl _)) (by rw [Hpsz.out]; kernel_rfl) (by rw [Hps.out]; exact all_oneCell_toArray (one_pend _ _)) ?_))
        have hb1 : Below wr.heap.size wr ((wr.alloc (.cells zp 56)).setCells wr.heap.size 0 ps.toList) := below_setCells _ _ _ ((Below.refl _ _).alloc (Nat.le_refl _) _) (Nat.le_refl _)
        have hr1 : ((wr.alloc (.cells zp 56)).setCells wr.heap.size 0 ps.toList).rangeAt wr.heap.size 0 ps.toList := World.rangeAt_setCells_same _ _ _ _ (by rw [Array.length_toList, Hpsz.out]; exact there_new wr _ _ 65 (by rw [Hzs.out]; exact Nat.le_refl _))
        have hs1 : wr.heap.size < ((wr.alloc (.cells zp 56)).setCells wr.heap.size 0 ps.toList).heap.size := by rw [heap_size_setCells]; simp
        generalize ((wr.alloc (.cells zp 56)).setCells wr.heap.size 0 ps.toList) = w1 at *
        have hD1 := hD.out.below hb1
        have hpk := (hD.out.ok.pend p (List.mem_of_getElem? hp)).1
        obtain ⟨d0, hd0⟩ : ∃ d0, (s2.part k).secs[p.1]? = some d0 := ⟨_, List.getElem?_eq_getElem hpk⟩
        obtain ⟨gS, cS, rfl, hoS, hgS, hrS, htS⟩ := hD1.secAt hd0
        have Htgt := Lib.hid htS
        have Hr1 := Lib.hid hr1
        have hpk' : (p.1 : Int) < ((s2.part k).secs.length : Int) := by omega
        have hp0 : (0 : Int) ≤ (p.1 : Int) := by omega
        clear hrS htS hr1
        refine AnyZ.start [9] (by kernel_rfl) rfl ?_
        apply AnyZ.pure (i := 0) rfl (by kernel_rfl) rfl rfl
        · intro w' K hK
          go_wp2
          exact hK
        · rfl
        apply AnyZ.pure (i := 1) rfl (by kernel_rfl) rfl rfl
        · intro w' K hK
          go_wp2
          exact hK
        · rfl
        apply AnyZ.pure (i := 2) rfl (by kernel_rfl) rfl rfl
        · intro w' K hK
          go_wp2
          exact hK
        · rfl
        apply AnyZ.take (i := 3) rfl (by kernel_rfl) (by kernel_rfl) rfl
        · intro w' hC K hK
          have f0 := (hD1.below hC).field (i := 0) rfl
          go_wp2
          exact hK
        · rfl
        apply AnyZ.pure (i := 4) rfl (by kernel_rfl) rfl rfl
        · intro w' K hK
          go_wp2
          exact hK
        · rfl
        apply AnyZ.take (i := 5) rfl (by kernel_rfl) (by kernel_rfl) rfl
        · intro w' hC K hK
          have f0 : w'.cell? ⟨wr.heap.size, 0, none⟩ = some (.int .i64 p.1) := (hC.cell (p := ⟨wr.heap.size, 0, none⟩) hs1).trans (Hr1.out 0 _ (by rw [Hps.out]; rfl))
          go_wp2
          exact hK
        · rfl
        apply AnyZ.pure (i := 6) rfl (by kernel_rfl) rfl rfl
        · intro w' K hK
          go_wp2
          exact hK
        · rfl
        apply AnyZ.take (i := 7) rfl (by kernel_rfl) (by kernel_rfl) rfl
        · intro w' hC K hK
          refine wpList_load_mid rfl _ _ rfl wr.heap.size 1 rfl (bvs p.2) _ (fun j v hv => (hC.cell (p := ⟨wr.heap.size, 1 + j, none⟩) hs1).trans (by have := Hr1.out (j + 1) v (by rw [Hps.out]; simpa using hv); rw [Nat.zero_add] at this; rw [Nat.add_comm]; exact this)) Try.underlying28 rfl (by rw [bvs_length, Hpl.out]; kernel_rfl) ?_
          exact hK
        · rfl
        apply AnyZ.pure (i := 8) rfl (by kernel_rfl) rfl rfl
        · intro w' K hK
          go_wp2
          exact hK
        · rfl
        apply AnyZ.soloW (i := 9) rfl (by kernel_rfl)
        intro w3 hC3
        have hD3 := hD1.below hC3
        refine wpList_store_mid rfl _ _ _ rfl gS (p.1 * 64) (bvs p.2).toArray rfl rfl (by rw [List.size_toArray, bvs_length, Hpl.out]; exact hD3.secThere rfl hpk) (by rw [List.size_toArray, bvs_length, Hpl.out]; kernel_rfl) (all_oneCell_toArray (bvs_one _)) ?_
        refine ⟨rfl, ?_⟩
        apply AnyW.done (by kernel_rfl)
        have Hfin : Hid (Dsk (w3.setCells gS (p.1 * 64) (bvs p.2).toArray.toList) base own g (s2.part (k + 1)) (.slice (some ⟨gS, 0, none⟩) (s2.part k).secs.length cS) (.slice (some ⟨gP, 0, none⟩) s2.pend.length cP) ∧ Turns own w (w3.setCells gS (p.1 * 64) (bvs p.2).toArray.toList)) := by
          obtain ⟨h1, h2⟩ := hD3.secSet (k := p.1) (d := p.2) rfl hpk Hpl.out
          refine ⟨?_, hT.out.trans ((Turns.of_below (hb1.trans (hC3.mono hb1.size))).trans h2)⟩
          rw [show s2.part (k + 1) = { s2.part k with secs := (s2.part k).secs.set p.1 p.2 } from part_succ hp]
          exact h1
        generalize (w3.setCells gS (p.1 * 64) (bvs p.2).toArray.toList) = w4 at *
        go_wp2
        go_roundw
        case rel => exact ⟨k + 1, hlt, by go_num, Hfin.out.1, Hfin.out.2⟩
        case measure => simp [intOf]; omega
      · obtain rfl : k = s2.pend.length := by omega
        have hfr := hD.out.unfrozen 1
        have f1 := hD.out.field (i := 1) rfl
        go_wp2
        go_ret
        have hpt : s2.part s2.pend.length = { s2 with secs := syncAll s2.secs s2.pend } := by unfold DS.part; rw [List.take_length]
        have hre := hD.out.repend (w5 := wr) (v := .slice none 0 0) (l := []) ⟨rfl, rfl, rfl, Nat.le_refl _, fun _ _ _ => rfl⟩ (World.ownsRow_nil _ _ _ 65) (.inl rfl) (fun p hp => by cases hp)
        obtain ⟨h1, h2, h3⟩ := hre
        refine SyncPost.mk (s' := { s2.part s2.pend.length with pend := [] }) (by unfold DS.sync; rw [if_pos Hop.out, Hs2.out, hpt]) ⟨_, _, _, h1, hT.out.trans h2, fun k hk => (h3 k hk).imp id fun hk => by have := hT.out.size; omega⟩
end Go.Proofs.Ytdggibigfocadaa
