/- The walk of the reference's Sync. No conditions. -/
import Derived.Test.YtdggibigfocadaaE3
namespace Go.Proofs.Ytdggibigfocadaa
open Go.RowKit
variable {w w' w0 : World} {base g : Nat} {own : Nat → Prop} {s : DS} {S P : Value}
def SyncPostE (base g : Nat) (own : Nat → Prop) (s : DS) (w : World) (e : Ending) (w' : World) : Prop := e = .returned (.int .i64 s.sync.1) ∧ AfterE base g own s.sync.2 w w'
theorem SyncPostE.mk {x : Int} {s' : DS} (he : s.sync = (x, s')) (h : AfterE base g own s' w w') : SyncPostE base g own s w (.returned (.int .i64 x)) w' := ⟨by rw [he], by rw [he]; exact h⟩
set_option maxRecDepth 100000 in
set_option maxHeartbeats 1000000 in
theorem RSync_any (h : Rdk w base own g s S P) (hfo : FuseOk s) : Calls Try.prog 22 #[.pointer (some ⟨g, 0, none⟩)] w (SyncPostE base g own s w) := by
  cases hop : s.op.1 with
  | false =>
    have Hop := Lib.hid hop
    clear hop
    go_enter Try.func22, Try.ntmps22
    go_wp2_with (go_at_call 31; go_must (refine (lost_any h hfo).mono ?_; rintro e w2 ⟨rfl, hD, hT⟩; rw [Hop.out]; simp only [Bool.not_false]))
    go_ret
    exact SyncPostE.mk (by unfold DS.sync; rw [if_neg (by rw [Hop.out]; simp)]) ⟨own, S, P, hD, hT, fun k hk => .inl hk⟩
  | true =>
    have Hop := Lib.hid hop
    clear hop
    obtain ⟨s2, hs2⟩ : ∃ s2, s.op.2 = s2 := ⟨_, rfl⟩
    have Hs2 := Lib.hid hs2
    clear hs2
    go_enter Try.func22, Try.ntmps22
    go_wp2_with (go_at_call 31; go_must (refine (lost_any h hfo).mono ?_; rintro e w2 ⟨rfl, hD, hT⟩; rw [Hop.out]; simp only [Bool.not_true]; rw [Hs2.out] at hD; have f1 := hD.field (i := 1) rfl; obtain ⟨AP, cP, rfl⟩ := hD.formP))
    have hDo := Lib.hid hD
    have hTo := Lib.hid hT
    clear hD hT f1
    go_loopw [11] (fun i wr => ∃ k : Nat, k ≤ s2.pend.length ∧ i = .int .i64 k ∧ Hid (Rdk wr base own g (s2.part k) S (.slice AP s2.pend.length cP)) ∧ Hid (Turns own w wr)) (fun i _ => s2.pend.length - (intOf i).toNat)
    case atStart => exact ⟨0, Nat.zero_le _, rfl, hDo, hTo⟩
    case round =>
      obtain ⟨k, hk, rfl, hD, hT⟩ := hrel
      clear hDo hTo
      by_cases hlt : k < s2.pend.length
      · have hlt' : (k : Int) < (s2.pend.length : Int) := by omega
        have hk0 : (0 : Int) ≤ (k : Int) := by omega
        have hmx : (k : Int) + 1 ≤ 9223372036854775807 := by have := hD.out.pendMax; have e : (s2.part k).pend = s2.pend := rfl; rw [e] at this; omega
        obtain ⟨p, hp⟩ : ∃ p, s2.pend[k]? = some p := ⟨_, List.getElem?_eq_getElem hlt⟩
        obtain ⟨gP, c, hPe, hoP, hgP, hrP⟩ := hD.out.pendAt (k := k) (p := p) hp
        obtain ⟨rfl, rfl⟩ : AP = some ⟨gP, 0, none⟩ ∧ cP = c := by injection hPe; exact ⟨by assumption, by assumption⟩
        have hrP' := Lib.hid hrP
        have hpl : p.2.length = 64 := (hD.out.ok.pend p (List.mem_of_getElem? hp)).2
        have Hpl := Lib.hid hpl
        have hpk := (hD.out.ok.pend p (List.mem_of_getElem? hp)).1
        obtain ⟨d0, hd0⟩ : ∃ d0, (s2.part k).secs[p.1]? = some d0 := ⟨_, List.getElem?_eq_getElem hpk⟩
        obtain ⟨gS, cS, rfl, hoS, hgS, hrS, htS⟩ := hD.out.secAt hd0
        have hpk' : (p.1 : Int) < ((s2.part k).secs.length : Int) := by omega
        have hp0 : (0 : Int) ≤ (p.1 : Int) := by omega
        have Hpk := Lib.hid hpk
        have Hp := Lib.hid hp
        have hcP : wr.cell? ⟨gP, k * 65, none⟩ = some (.int .i64 p.1) := hrP 0 _ rfl
        have HcP := Lib.hid hcP
        obtain ⟨ds, hds⟩ : ∃ ds : Array Value, ds = (bvs p.2).toArray := ⟨_, rfl⟩
        have Hds := Lib.hid hds
        have hdz : ds.size = 64 := by rw [hds, List.size_toArray, bvs_length, hpl]
        have Hdz := Lib.hid hdz
        clear hPe hrP hpl hrS htS hpk hp hcP hds hdz hd0
        go_wp2
        refine AnyZ.start [21] (by kernel_rfl) rfl ?_
        apply AnyZ.pure (i := 0) rfl (by kernel_rfl) rfl rfl
        · intro w' K hK
          go_wp2
          exact hK
        · rfl
        apply AnyZ.pure (i := 1) rfl (by kernel_rfl) rfl rfl
        · intro w' K hK
          go_wp2
          exact hK
        · rfl
        apply AnyZ.pure (i := 2) rfl (by kernel_rfl) rfl rfl
        · intro w' K hK
          go_wp2
          exact hK
        · rfl
        apply AnyZ.take (i := 3) rfl (by kernel_rfl) (by kernel_rfl) rfl
        · intro w' hC K hK
          have f0 := (hD.out.below hC).field (i := 0) rfl
          go_wp2
          exact hK
        · rfl
        apply AnyZ.pure (i := 4) rfl (by kernel_rfl) rfl rfl
        · intro w' K hK
          go_wp2
          exact hK
        · rfl
        apply AnyZ.pure (i := 5) rfl (by kernel_rfl) rfl rfl
        · intro w' K hK
          go_wp2
          exact hK
        · rfl
        apply AnyZ.pure (i := 6) rfl (by kernel_rfl) rfl rfl
        · intro w' K hK
          go_wp2
          exact hK
        · rfl
        apply AnyZ.take (i := 7) rfl (by kernel_rfl) (by kernel_rfl) rfl
        · intro w' hC K hK
          have f1 := (hD.out.below hC).field (i := 1) rfl
          go_wp2
          exact hK
        · rfl
        apply AnyZ.pure (i := 8) rfl (by kernel_rfl) rfl rfl
        · intro w' K hK
          go_wp2
          exact hK
        · rfl
        apply AnyZ.pure (i := 9) rfl (by kernel_rfl) rfl rfl
        · intro w' K hK
          go_wp2
          exact hK
        · rfl
        apply AnyZ.pure (i := 10) rfl (by kernel_rfl) rfl rfl
        · intro w' K hK
          go_wp2
          exact hK
        · rfl
        apply AnyZ.take (i := 11) rfl (by kernel_rfl) (by kernel_rfl) rfl
        · intro w' hC K hK
          have c0 := (hC.cell (p := ⟨gP, k * 65, none⟩) hgP).trans HcP.out
          go_wp2
          exact hK
        · rfl
        apply AnyZ.pure (i := 12) rfl (by kernel_rfl) rfl rfl
        · intro w' K hK
          go_wp2
          exact hK
        · rfl
        apply AnyZ.pure (i := 13) rfl (by kernel_rfl) rfl rfl
        · intro w' K hK
          go_wp2
          exact hK
        · rfl
        apply AnyZ.pure (i := 14) rfl (by kernel_rfl) rfl rfl
        · intro w' K hK
          go_wp2
          exact hK
        · rfl
        apply AnyZ.take (i := 15) rfl (by kernel_rfl) (by kernel_rfl) rfl
        · intro w' hC K hK
          have f1 := (hD.out.below hC).field (i := 1) rfl
          go_wp2
          exact hK
        · rfl
        apply AnyZ.pure (i := 16) rfl (by kernel_rfl) rfl rfl
        · intro w' K hK
          go_wp2
          exact hK
        · rfl
        apply AnyZ.pure (i := 17) rfl (by kernel_rfl) rfl rfl
        · intro w' K hK
          go_wp2
          exact hK
        · rfl
        apply AnyZ.pure (i := 18) rfl (by kernel_rfl) rfl rfl
        · intro w' K hK
          go_wp2
          exact hK
        · rfl
        apply AnyZ.take (i := 19) rfl (by kernel_rfl) (by kernel_rfl) rfl
        · intro w' hC K hK
          refine wpList_load_mid rfl _ _ rfl gP (k * 65 + 1) rfl (bvs p.2) _ (fun j v hv => (hC.cell (p := ⟨gP, k * 65 + 1 + j, none⟩) hgP).trans (by have := hrP'.out (j + 1) v (by simpa using hv); rw [show k * 65 + 1 + j = k * 65 + (j + 1) from by omega]; exact this)) Try.underlying28 rfl (by rw [bvs_length, Hpl.out]; kernel_rfl) ?_
          rw [← Hds.out]
          exact hK
        · rfl
        apply AnyZ.pure (i := 20) rfl (by kernel_rfl) rfl rfl
        · intro w' K hK
          go_wp2
          exact hK
        · rfl
        apply AnyZ.soloW (i := 21) rfl (by kernel_rfl)
        intro w3 hC3
        have hD3 := hD.out.below hC3
        refine wpList_store_mid rfl _ _ _ rfl gS (p.1 * 64) ds rfl rfl (by rw [Hdz.out]; exact hD3.secThere rfl Hpk.out) (by rw [Hdz.out]; kernel_rfl) (by rw [Hds.out]; exact all_oneCell_toArray (bvs_one _)) ?_
        refine ⟨rfl, ?_⟩
        apply AnyW.done (by kernel_rfl)
        have Hfin : Hid (Rdk (w3.setCells gS (p.1 * 64) ds.toList) base own g (s2.part (k + 1)) (.slice (some ⟨gS, 0, none⟩) (s2.part k).secs.length cS) (.slice (some ⟨gP, 0, none⟩) s2.pend.length cP) ∧ Turns own w (w3.setCells gS (p.1 * 64) ds.toList)) := by
          rw [Hds.out]
          obtain ⟨h1, h2⟩ := hD3.secSet (k := p.1) (d := p.2) rfl Hpk.out Hpl.out
          refine ⟨?_, hT.out.trans ((Turns.of_below hC3).trans h2)⟩
          rw [show s2.part (k + 1) = { s2.part k with secs := (s2.part k).secs.set p.1 p.2 } from part_succ Hp.out]
          exact h1
        generalize (w3.setCells gS (p.1 * 64) ds.toList) = w4 at *
        go_wp2
        go_roundw
        case rel => exact ⟨k + 1, hlt, by go_num, Hfin.out.1, Hfin.out.2⟩
        case measure => simp [intOf]; omega
      · obtain rfl : k = s2.pend.length := by omega
        have hfr := hD.out.unfrozen 1
        have f1 := hD.out.field (i := 1) rfl
        go_wp2
        go_ret
        have hpt : s2.part s2.pend.length = { s2 with secs := syncAll s2.secs s2.pend } := by unfold DS.part; rw [List.take_length]
        have hre := hD.out.repend (w5 := wr) (v := .slice none 0 0) (l := []) ⟨rfl, rfl, rfl, Nat.le_refl _, fun _ _ _ => rfl⟩ (World.ownsRow_nil _ _ _ 65) (.inl rfl) (fun p hp => by cases hp)
        obtain ⟨h1, h2, h3⟩ := hre
        refine SyncPostE.mk (s' := { s2.part s2.pend.length with pend := [] }) (by unfold DS.sync; rw [if_pos Hop.out, Hs2.out, hpt]) ⟨_, _, _, h1, hT.out.trans h2, fun k hk => (h3 k hk).imp id fun hk => by have := hT.out.size; omega⟩
end Go.Proofs.Ytdggibigfocadaa
