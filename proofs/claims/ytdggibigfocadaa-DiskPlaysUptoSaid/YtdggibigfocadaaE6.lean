/- The walk of the reference's Restart. No conditions. -/
import Derived.Test.YtdggibigfocadaaE6a
namespace Go.Proofs.Ytdggibigfocadaa
open Go.RowKit
variable {w w' w0 : World} {base g : Nat} {own : Nat → Prop} {s : DS} {S P : Value}
set_option maxRecDepth 100000 in
set_option maxHeartbeats 4000000 in
theorem RRestart_any (h : Rdk w base own g s S P) {B : Nat} {A : Option Addr} {cc : Nat} {ch : List UInt8} (hch : Reads w B 1 A ch.length (bvs ch)) (hB : B ≤ base) :
    Calls Try.prog 26 #[.pointer (some ⟨g, 0, none⟩), .slice A ch.length cc] w fun e w' => e = .returned (.tuple #[]) ∧ AfterE base g own (s.restart ch) w w' := by
  have f1 := h.field (i := 1) rfl
  obtain ⟨AP, cP, rfl⟩ := h.formP
  have Hh := Lib.hid h
  obtain ⟨zp, hzp⟩ : ∃ zp : Array Value, zp = (Value.int .i64 0 :: bvs (List.replicate 64 0)).toArray := ⟨_, rfl⟩
  have hz56 : ∀ w, (zeroValue 62).run Try.prog w = .ok (.agg zp) w := fun w => by rw [hzp]; kernel_rfl
  have hzs : zp.size = 65 := by rw [hzp]; simp [bvs_length]
  have Hzs := Lib.hid hzs
  have Hch := Lib.hid hch
  have HB := Lib.hid hB
  clear hzp hzs hch hB
  go_enter Try.func26, Try.ntmps26
  go_wp2
  clear f1 h
  go_loopw [13] (fun i wr => ∃ k : Nat, k ≤ s.pend.length ∧ i = .int .i64 k ∧ Hid (Rdk wr base own g (s.crash ch k) S (.slice AP s.pend.length cP)) ∧ Hid (Turns own w wr)) (fun i _ => s.pend.length - (intOf i).toNat)
  case atStart => exact ⟨0, Nat.zero_le _, rfl, Hh, Turns.refl _ _⟩
  case round =>
    obtain ⟨k, hk, rfl, hD, hT⟩ := hrel
    by_cases hlt : k < s.pend.length
    · have hlt' : (k : Int) < (s.pend.length : Int) := by omega
      have hk0 : (0 : Int) ≤ (k : Int) := by omega
      have hmx : (k : Int) + 1 ≤ 9223372036854775807 := by have := hD.out.pendMax; have e : (s.crash ch k).pend = s.pend := rfl; rw [e] at this; omega
      obtain ⟨p, hp⟩ : ∃ p, s.pend[k]? = some p := ⟨_, List.getElem?_eq_getElem hlt⟩
      obtain ⟨gP, cq, hPe, hoP, hgP, hrP⟩ := hD.out.pendAt (k := k) (p := p) hp
      obtain ⟨rfl, rfl⟩ : AP = some ⟨gP, 0, none⟩ ∧ cP = cq := by injection hPe; exact ⟨by assumption, by assumption⟩
      have hrP' := Lib.hid hrP
      obtain ⟨ps, hps⟩ : ∃ ps : Array Value, ps = (Value.int .i64 (p.1 : Int) :: bvs p.2).toArray := ⟨_, rfl⟩
      have Hps := Lib.hid hps
      have hpl : p.2.length = 64 := (hD.out.ok.pend p (List.mem_of_getElem? hp)).2
      have Hpl := Lib.hid hpl
      have hpsz : ps.size = 65 := by rw [hps, List.size_toArray, List.length_cons, bvs_length, hpl]
      have Hpsz := Lib.hid hpsz
      have hpk := (hD.out.ok.pend p (List.mem_of_getElem? hp)).1
      obtain ⟨d0, hd0⟩ : ∃ d0, (s.crash ch k).secs[p.1]? = some d0 := ⟨_, List.getElem?_eq_getElem hpk⟩
      have Hd0s := Lib.hid hd0
      have hd0l : d0.length = 64 := hD.out.ok.secs d0 (List.mem_of_getElem? hd0)
      have Hd0 := Lib.hid hd0l
      obtain ⟨gS, cS, rfl, hoS, hgS, -, -⟩ := hD.out.secAt hd0
      have Hpk := Lib.hid hpk
      have Hp := Lib.hid hp
      have Hmx := Lib.hid hmx
      have hend := mid_end (ch := ch) hp hd0
      have Hend := Lib.hid hend
      have f1 := hD.out.field (i := 1) rfl
      have hpk' : (p.1 : Int) < ((s.crash ch k).secs.length : Int) := by omega
      have hp0 : (0 : Int) ≤ (p.1 : Int) := by omega
      clear hps hpl hpsz hPe hrP hmx hd0 hd0l hpk hp hend
      have hb1 : Below wr.heap.size wr (wr.alloc (.cells ps 62)) := (Below.refl _ _).alloc (Nat.le_refl _) _
      have hr1 : (wr.alloc (.cells ps 62)).rangeAt wr.heap.size 0 ps.toList := range_of (heap_alloc_new wr _)
      have hs1 : wr.heap.size < (wr.alloc (.cells ps 62)).heap.size := by simp
      have hD1 := hD.out.below hb1
      have hT1 : Turns own w (wr.alloc (.cells ps 62)) := hT.out.trans (Turns.of_below hb1)
      have hgB : gS ≠ wr.heap.size := by omega
      have HgB := Lib.hid hgB
      clear hgB
      by_cases hkl : k < ch.length
      · have hkl' : (k : Int) < (ch.length : Int) := by omega
        have hch2 : Reads (wr.alloc (.cells ps 62)) B 1 A ch.length (bvs ch) := Hch.out.keep fun q hq => World.cell?_of_block (hT1.block q.block (by have := (Hh.out.bnd _ Hh.out.ownG); have := HB.out; omega) (fun e => by have := (Hh.out.bnd _ e).1; have := HB.out; omega))
        obtain ⟨b, off, u, rfl, hbB, hu, hcell⟩ := hch2.at_ (k := k) hkl
        obtain ⟨c, hc⟩ : ∃ c, ch[k]? = some c := ⟨_, List.getElem?_eq_getElem hkl⟩
        obtain rfl : u = bv c := by simp [bvs, hc] at hu; exact hu.symm
        have hcd : ch.getD k 0 = c := by rw [List.getD_eq_getElem?_getD, hc]; rfl
        have Hcd := Lib.hid hcd
        clear hch2 hu hc hcd
        unfold bv at hcell
        by_cases hc1 : c = 1
        · skip
          subst hc1
          rw [show ((UInt8.toNat 1 : Nat) : Int) = 1 from rfl] at hcell
          have HD1 := Lib.hid hD1
          have HT1 := Lib.hid hT1
          have HR1 := Lib.hid (And.intro hr1 hs1)
          clear hD1 hT1 hr1 hs1
          go_wp2_with (first
            | (refine wpList_load_mid rfl _ _ rfl gP (k * 65) rfl (Value.int .i64 (p.1 : Int) :: bvs p.2) _ hrP'.out Try.underlying62 rfl (by rw [List.length_cons, bvs_length, Hpl.out]; kernel_rfl) ?_; rw [← Hps.out])
            | (refine wpList_store_mid rfl _ _ _ rfl wr.heap.size 0 ps rfl rfl (by rw [Hpsz.out]; exact there_new wr _ _ 65 (by rw [Hzs.out]; exact Nat.le_refl _)) (by rw [Hpsz.out]; kernel_rfl) (by rw [Hps.out]; exact all_oneCell_toArray (one_pend _ _)) ?_; rw [alloc_all _ zp ps (by rw [Hzs.out, Hpsz.out])]))
          generalize hw1 : (wr.alloc (.cells ps 62)) = w1 at *
          generalize hB0 : wr.heap.size = B0 at *
          clear hcell hrP' hD hT hgS hgP hw1 hB0 hb1
          go_loopw [31] (fun i wx => ∃ j : Nat, j ≤ 64 ∧ i = .int .i64 j ∧ Hid (Rdk wx base own g (s.mid ch k p.1 (mix 1 d0 p.2 j)) (.slice (some ⟨gS, 0, none⟩) (s.crash ch k).secs.length cS) (.slice (some ⟨gP, 0, none⟩) s.pend.length cP)) ∧ Hid (wx.rangeAt B0 0 ps.toList ∧ B0 < wx.heap.size) ∧ Hid (Turns own w wx)) (fun i _ => 64 - (intOf i).toNat)
          case atStart => exact ⟨0, Nat.zero_le _, rfl, by show Rdk _ _ _ _ _ _ _; rw [mix_zero, mid_same Hd0s.out]; exact HD1.out, HR1, HT1⟩
          case round =>
            obtain ⟨j, hj64, rfl, hD2, hR2, hT2⟩ := hrel
            clear HD1 HR1 HT1
            have hj0 : (0 : Int) ≤ (j : Int) := by omega
            by_cases hj : j < 64
            · have hj' : (j : Int) < 64 := by omega
              obtain ⟨x, hx⟩ : ∃ x, p.2[j]? = some x := ⟨_, List.getElem?_eq_getElem (by rw [Hpl.out]; exact hj)⟩
              have Hx := Lib.hid hx
              have hbyte := hR2.out.1 (1 + j) (.int .u8 (x.toNat : Int)) (by rw [Hps.out, Nat.add_comm]; simp [bvs, bv, hx])
              rw [Nat.zero_add] at hbyte
              have Hbyte := Lib.hid hbyte
              clear hx hbyte
              have Hhit : Hid (hit 1 j) := (.inl rfl)
              go_wp2
              refine AnyZ.start [13] (by kernel_rfl) rfl ?_
              apply AnyZ.pure (i := 0) rfl (by kernel_rfl) rfl rfl
              · intro w' K hK
                go_wp2
                exact hK
              · rfl
              apply AnyZ.pure (i := 1) rfl (by kernel_rfl) rfl rfl
              · intro w' K hK
                go_wp2
                exact hK
              · rfl
              apply AnyZ.pure (i := 2) rfl (by kernel_rfl) rfl rfl
              · intro w' K hK
                go_wp2
                exact hK
              · rfl
              apply AnyZ.take (i := 3) rfl (by kernel_rfl) (by kernel_rfl) rfl
              · intro w' hC K hK
                have f0 := (hD2.out.below hC).field (i := 0) rfl
                go_wp2
                exact hK
              · rfl
              apply AnyZ.pure (i := 4) rfl (by kernel_rfl) rfl rfl
              · intro w' K hK
                go_wp2
                exact hK
              · rfl
              apply AnyZ.take (i := 5) rfl (by kernel_rfl) (by kernel_rfl) rfl
              · intro w' hC K hK
                have c0 := (hC.cell (p := ⟨B0, 0, none⟩) hR2.out.2).trans (hR2.out.1 0 _ (by rw [Hps.out]; rfl))
                go_wp2
                exact hK
              · rfl
              apply AnyZ.pure (i := 6) rfl (by kernel_rfl) rfl rfl
              · intro w' K hK
                go_wp2
                exact hK
              · rfl
              apply AnyZ.pure (i := 7) rfl (by kernel_rfl) rfl rfl
              · intro w' K hK
                go_wp2
                exact hK
              · rfl
              apply AnyZ.pure (i := 8) rfl (by kernel_rfl) rfl rfl
              · intro w' K hK
                go_wp2
                exact hK
              · rfl
              apply AnyZ.pure (i := 9) rfl (by kernel_rfl) rfl rfl
              · intro w' K hK
                go_wp2
                exact hK
              · rfl
              apply AnyZ.take (i := 10) rfl (by kernel_rfl) (by kernel_rfl) rfl
              · intro w' hC K hK
                have c1 := (hC.cell (p := ⟨B0, 1 + j, none⟩) hR2.out.2).trans Hbyte.out
                go_wp2
                exact hK
              · rfl
              apply AnyZ.pure (i := 11) rfl (by kernel_rfl) rfl rfl
              · intro w' K hK
                go_wp2
                exact hK
              · rfl
              apply AnyZ.pure (i := 12) rfl (by kernel_rfl) rfl rfl
              · intro w' K hK
                go_wp2
                exact hK
              · rfl
              apply AnyZ.soloW (i := 13) rfl (by kernel_rfl)
              intro w3 hC3
              have hD3 := hD2.out.below hC3
              obtain ⟨y, hy⟩ : ∃ y, (mix 1 d0 p.2 j)[j]? = some y := ⟨_, List.getElem?_eq_getElem (by rw [mix_len Hd0.out Hpl.out (by omega)]; exact hj)⟩
              have hsec : (s.mid ch k p.1 (mix 1 d0 p.2 j)).secs[p.1]? = some (mix 1 d0 p.2 j) := List.getElem?_set_self Hpk.out
              obtain ⟨gS', cS', hS', -, -, hr3, ht3⟩ := hD3.secAt hsec
              obtain rfl : gS = gS' := by injection hS' with e; injection e with e; injection e
              have hc3 : w3.cell? ⟨gS, p.1 * 64 + j, none⟩ = some (.int .u8 (y.toNat : Int)) := hr3 j _ (by simp [bvs, bv, hy])
              have hz3 := (ht3 j hj).2
              have hfin := hD3.secPart (k := p.1) (o := j) (old := mix 1 d0 p.2 j) (e := [x]) (gS := gS) (c := cS) (by rw [show (s.mid ch k p.1 (mix 1 d0 p.2 j)).secs.length = (s.crash ch k).secs.length from List.length_set]) hsec (by simp; omega)
              have Hfin := Lib.hid hfin
              have HT3 := Lib.hid (hT2.out.trans (Turns.of_below hC3))
              have hR3 : Hid (w3.rangeAt B0 0 ps.toList ∧ B0 < w3.heap.size) := ⟨fun i v hv => (hC3.cell (p := ⟨B0, 0 + i, none⟩) hR2.out.2).trans (hR2.out.1 i v hv), Nat.lt_of_lt_of_le hR2.out.2 hC3.size⟩
              clear hfin hS' hr3 ht3 hsec hy hD3
              go_wp2
              refine ⟨rfl, ?_⟩
              apply AnyW.done (by kernel_rfl)
              have hw4 : (w3.setCells gS (p.1 * 64 + j) (bvs [x])) = w3.setCell ⟨gS, p.1 * 64 + j, none⟩ (.int .u8 (x.toNat : Int)) := rfl
              have hR4 : Hid ((w3.setCell ⟨gS, p.1 * 64 + j, none⟩ (.int .u8 (x.toNat : Int))).rangeAt B0 0 ps.toList ∧ B0 < (w3.setCell ⟨gS, p.1 * 64 + j, none⟩ (.int .u8 (x.toNat : Int))).heap.size) := ⟨fun i v hv => (World.cell?_setCell_other w3 _ _ _ (fun e => HgB.out (by injection e))).trans (hR3.out.1 i v hv), by simpa [World.setCell] using hR3.out.2⟩
              have Hfin2 : Hid (Rdk (w3.setCell ⟨gS, p.1 * 64 + j, none⟩ (.int .u8 (x.toNat : Int))) base own g (s.mid ch k p.1 (mix 1 d0 p.2 (j + 1))) (.slice (some ⟨gS, 0, none⟩) (s.crash ch k).secs.length cS) (.slice (some ⟨gP, 0, none⟩) s.pend.length cP) ∧ Turns own w (w3.setCell ⟨gS, p.1 * 64 + j, none⟩ (.int .u8 (x.toNat : Int)))) := by
                obtain ⟨h1, h2⟩ := Hfin.out
                rw [hw4] at h1 h2
                refine ⟨?_, HT3.out.trans h2⟩
                rw [mix_hit Hd0.out Hpl.out hj Hx.out Hhit.out]
                have h3 : (s.mid ch k p.1 ((mix 1 d0 p.2 j).take j ++ ([x] ++ (mix 1 d0 p.2 j).drop (j + 1)))) = { s.mid ch k p.1 (mix 1 d0 p.2 j) with secs := (s.mid ch k p.1 (mix 1 d0 p.2 j)).secs.set p.1 ((mix 1 d0 p.2 j).take j ++ ([x] ++ (mix 1 d0 p.2 j).drop (j + [x].length))) } := by
                  unfold DS.mid
                  simp only [List.set_set, List.length_singleton]
                rw [h3]
                exact h1
              generalize (w3.setCell ⟨gS, p.1 * 64 + j, none⟩ (.int .u8 (x.toNat : Int))) = w4 at *
              clear Hfin HT3 hR3 hw4
              go_wp2
              go_roundw
              case rel => exact ⟨j + 1, hj, by go_num, Hfin2.out.1, hR4, Hfin2.out.2⟩
              case measure => simp [intOf]; omega
            · obtain rfl : j = 64 := by omega
              have hmx := Hmx.out
              go_wp2
              go_roundw
              case rel => exact ⟨k + 1, hlt, by go_num, by show Rdk _ _ _ _ _ _ _; rw [Hend.out, Hcd.out, ← mix_all Hd0.out Hpl.out]; exact hD2.out, hT2⟩
              case measure => simp [intOf]; omega
        by_cases hc2 : c = 2
        · skip
          subst hc2
          rw [show ((UInt8.toNat 2 : Nat) : Int) = 2 from rfl] at hcell
          have HD1 := Lib.hid hD1
          have HT1 := Lib.hid hT1
          have HR1 := Lib.hid (And.intro hr1 hs1)
          clear hD1 hT1 hr1 hs1
          go_wp2_with (first
            | (refine wpList_load_mid rfl _ _ rfl gP (k * 65) rfl (Value.int .i64 (p.1 : Int) :: bvs p.2) _ hrP'.out Try.underlying62 rfl (by rw [List.length_cons, bvs_length, Hpl.out]; kernel_rfl) ?_; rw [← Hps.out])
            | (refine wpList_store_mid rfl _ _ _ rfl wr.heap.size 0 ps rfl rfl (by rw [Hpsz.out]; exact there_new wr _ _ 65 (by rw [Hzs.out]; exact Nat.le_refl _)) (by rw [Hpsz.out]; kernel_rfl) (by rw [Hps.out]; exact all_oneCell_toArray (one_pend _ _)) ?_; rw [alloc_all _ zp ps (by rw [Hzs.out, Hpsz.out])]))
          generalize hw1 : (wr.alloc (.cells ps 62)) = w1 at *
          generalize hB0 : wr.heap.size = B0 at *
          clear hcell hrP' hD hT hgS hgP hw1 hB0 hb1
          go_loopw [31] (fun i wx => ∃ j : Nat, j ≤ 64 ∧ i = .int .i64 j ∧ Hid (Rdk wx base own g (s.mid ch k p.1 (mix 2 d0 p.2 j)) (.slice (some ⟨gS, 0, none⟩) (s.crash ch k).secs.length cS) (.slice (some ⟨gP, 0, none⟩) s.pend.length cP)) ∧ Hid (wx.rangeAt B0 0 ps.toList ∧ B0 < wx.heap.size) ∧ Hid (Turns own w wx)) (fun i _ => 64 - (intOf i).toNat)
          case atStart => exact ⟨0, Nat.zero_le _, rfl, by show Rdk _ _ _ _ _ _ _; rw [mix_zero, mid_same Hd0s.out]; exact HD1.out, HR1, HT1⟩
          case round =>
            obtain ⟨j, hj64, rfl, hD2, hR2, hT2⟩ := hrel
            clear HD1 HR1 HT1
            have hj0 : (0 : Int) ≤ (j : Int) := by omega
            by_cases hj : j < 64
            · have hj' : (j : Int) < 64 := by omega
              obtain ⟨x, hx⟩ : ∃ x, p.2[j]? = some x := ⟨_, List.getElem?_eq_getElem (by rw [Hpl.out]; exact hj)⟩
              have Hx := Lib.hid hx
              have hbyte := hR2.out.1 (1 + j) (.int .u8 (x.toNat : Int)) (by rw [Hps.out, Nat.add_comm]; simp [bvs, bv, hx])
              rw [Nat.zero_add] at hbyte
              have Hbyte := Lib.hid hbyte
              clear hx hbyte
              by_cases hj32 : j < 32
              · have l1 : decide ((j : Int) < 32) = true := decide_eq_true (by omega)
                have Hhit : Hid (hit 2 j) := (.inr (.inl ⟨rfl, hj32⟩))
                go_wp2
                refine AnyZ.start [13] (by kernel_rfl) rfl ?_
                apply AnyZ.pure (i := 0) rfl (by kernel_rfl) rfl rfl
                · intro w' K hK
                  go_wp2
                  exact hK
                · rfl
                apply AnyZ.pure (i := 1) rfl (by kernel_rfl) rfl rfl
                · intro w' K hK
                  go_wp2
                  exact hK
                · rfl
                apply AnyZ.pure (i := 2) rfl (by kernel_rfl) rfl rfl
                · intro w' K hK
                  go_wp2
                  exact hK
                · rfl
                apply AnyZ.take (i := 3) rfl (by kernel_rfl) (by kernel_rfl) rfl
                · intro w' hC K hK
                  have f0 := (hD2.out.below hC).field (i := 0) rfl
                  go_wp2
                  exact hK
                · rfl
                apply AnyZ.pure (i := 4) rfl (by kernel_rfl) rfl rfl
                · intro w' K hK
                  go_wp2
                  exact hK
                · rfl
                apply AnyZ.take (i := 5) rfl (by kernel_rfl) (by kernel_rfl) rfl
                · intro w' hC K hK
                  have c0 := (hC.cell (p := ⟨B0, 0, none⟩) hR2.out.2).trans (hR2.out.1 0 _ (by rw [Hps.out]; rfl))
                  go_wp2
                  exact hK
                · rfl
                apply AnyZ.pure (i := 6) rfl (by kernel_rfl) rfl rfl
                · intro w' K hK
                  go_wp2
                  exact hK
                · rfl
                apply AnyZ.pure (i := 7) rfl (by kernel_rfl) rfl rfl
                · intro w' K hK
                  go_wp2
                  exact hK
                · rfl
                apply AnyZ.pure (i := 8) rfl (by kernel_rfl) rfl rfl
                · intro w' K hK
                  go_wp2
                  exact hK
                · rfl
                apply AnyZ.pure (i := 9) rfl (by kernel_rfl) rfl rfl
                · intro w' K hK
                  go_wp2
                  exact hK
                · rfl
                apply AnyZ.take (i := 10) rfl (by kernel_rfl) (by kernel_rfl) rfl
                · intro w' hC K hK
                  have c1 := (hC.cell (p := ⟨B0, 1 + j, none⟩) hR2.out.2).trans Hbyte.out
                  go_wp2
                  exact hK
                · rfl
                apply AnyZ.pure (i := 11) rfl (by kernel_rfl) rfl rfl
                · intro w' K hK
                  go_wp2
                  exact hK
                · rfl
                apply AnyZ.pure (i := 12) rfl (by kernel_rfl) rfl rfl
                · intro w' K hK
                  go_wp2
                  exact hK
                · rfl
                apply AnyZ.soloW (i := 13) rfl (by kernel_rfl)
                intro w3 hC3
                have hD3 := hD2.out.below hC3
                obtain ⟨y, hy⟩ : ∃ y, (mix 2 d0 p.2 j)[j]? = some y := ⟨_, List.getElem?_eq_getElem (by rw [mix_len Hd0.out Hpl.out (by omega)]; exact hj)⟩
                have hsec : (s.mid ch k p.1 (mix 2 d0 p.2 j)).secs[p.1]? = some (mix 2 d0 p.2 j) := List.getElem?_set_self Hpk.out
                obtain ⟨gS', cS', hS', -, -, hr3, ht3⟩ := hD3.secAt hsec
                obtain rfl : gS = gS' := by injection hS' with e; injection e with e; injection e
                have hc3 : w3.cell? ⟨gS, p.1 * 64 + j, none⟩ = some (.int .u8 (y.toNat : Int)) := hr3 j _ (by simp [bvs, bv, hy])
                have hz3 := (ht3 j hj).2
                have hfin := hD3.secPart (k := p.1) (o := j) (old := mix 2 d0 p.2 j) (e := [x]) (gS := gS) (c := cS) (by rw [show (s.mid ch k p.1 (mix 2 d0 p.2 j)).secs.length = (s.crash ch k).secs.length from List.length_set]) hsec (by simp; omega)
                have Hfin := Lib.hid hfin
                have HT3 := Lib.hid (hT2.out.trans (Turns.of_below hC3))
                have hR3 : Hid (w3.rangeAt B0 0 ps.toList ∧ B0 < w3.heap.size) := ⟨fun i v hv => (hC3.cell (p := ⟨B0, 0 + i, none⟩) hR2.out.2).trans (hR2.out.1 i v hv), Nat.lt_of_lt_of_le hR2.out.2 hC3.size⟩
                clear hfin hS' hr3 ht3 hsec hy hD3
                go_wp2
                refine ⟨rfl, ?_⟩
                apply AnyW.done (by kernel_rfl)
                have hw4 : (w3.setCells gS (p.1 * 64 + j) (bvs [x])) = w3.setCell ⟨gS, p.1 * 64 + j, none⟩ (.int .u8 (x.toNat : Int)) := rfl
                have hR4 : Hid ((w3.setCell ⟨gS, p.1 * 64 + j, none⟩ (.int .u8 (x.toNat : Int))).rangeAt B0 0 ps.toList ∧ B0 < (w3.setCell ⟨gS, p.1 * 64 + j, none⟩ (.int .u8 (x.toNat : Int))).heap.size) := ⟨fun i v hv => (World.cell?_setCell_other w3 _ _ _ (fun e => HgB.out (by injection e))).trans (hR3.out.1 i v hv), by simpa [World.setCell] using hR3.out.2⟩
                have Hfin2 : Hid (Rdk (w3.setCell ⟨gS, p.1 * 64 + j, none⟩ (.int .u8 (x.toNat : Int))) base own g (s.mid ch k p.1 (mix 2 d0 p.2 (j + 1))) (.slice (some ⟨gS, 0, none⟩) (s.crash ch k).secs.length cS) (.slice (some ⟨gP, 0, none⟩) s.pend.length cP) ∧ Turns own w (w3.setCell ⟨gS, p.1 * 64 + j, none⟩ (.int .u8 (x.toNat : Int)))) := by
                  obtain ⟨h1, h2⟩ := Hfin.out
                  rw [hw4] at h1 h2
                  refine ⟨?_, HT3.out.trans h2⟩
                  rw [mix_hit Hd0.out Hpl.out hj Hx.out Hhit.out]
                  have h3 : (s.mid ch k p.1 ((mix 2 d0 p.2 j).take j ++ ([x] ++ (mix 2 d0 p.2 j).drop (j + 1)))) = { s.mid ch k p.1 (mix 2 d0 p.2 j) with secs := (s.mid ch k p.1 (mix 2 d0 p.2 j)).secs.set p.1 ((mix 2 d0 p.2 j).take j ++ ([x] ++ (mix 2 d0 p.2 j).drop (j + [x].length))) } := by
                    unfold DS.mid
                    simp only [List.set_set, List.length_singleton]
                  rw [h3]
                  exact h1
                generalize (w3.setCell ⟨gS, p.1 * 64 + j, none⟩ (.int .u8 (x.toNat : Int))) = w4 at *
                clear Hfin HT3 hR3 hw4
                go_wp2
                go_roundw
                case rel => exact ⟨j + 1, hj, by go_num, Hfin2.out.1, hR4, Hfin2.out.2⟩
                case measure => simp [intOf]; omega
              · have l1 : decide ((j : Int) < 32) = false := decide_eq_false (by omega)
                have Hmiss : Hid (¬ hit 2 j) := (fun h => by rcases h with h | ⟨_, h⟩ | ⟨h, _⟩; (cases h); (exact hj32 h); cases h)
                go_wp2
                go_roundw
                case rel => exact ⟨j + 1, hj, by go_num, by rw [mix_miss Hd0.out Hpl.out hj Hmiss.out]; exact hD2.out, hR2, hT2⟩
                case measure => simp [intOf]; omega
            · obtain rfl : j = 64 := by omega
              have hmx := Hmx.out
              go_wp2
              go_roundw
              case rel => exact ⟨k + 1, hlt, by go_num, by show Rdk _ _ _ _ _ _ _; rw [Hend.out, Hcd.out, ← mix_all Hd0.out Hpl.out]; exact hD2.out, hT2⟩
              case measure => simp [intOf]; omega
        by_cases hc3 : c = 3
        · skip
          subst hc3
          rw [show ((UInt8.toNat 3 : Nat) : Int) = 3 from rfl] at hcell
          have HD1 := Lib.hid hD1
          have HT1 := Lib.hid hT1
          have HR1 := Lib.hid (And.intro hr1 hs1)
          clear hD1 hT1 hr1 hs1
          go_wp2_with (first
            | (refine wpList_load_mid rfl _ _ rfl gP (k * 65) rfl (Value.int .i64 (p.1 : Int) :: bvs p.2) _ hrP'.out Try.underlying62 rfl (by rw [List.length_cons, bvs_length, Hpl.out]; kernel_rfl) ?_; rw [← Hps.out])
            | (refine wpList_store_mid rfl _ _ _ rfl wr.heap.size 0 ps rfl rfl (by rw [Hpsz.out]; exact there_new wr _ _ 65 (by rw [Hzs.out]; exact Nat.le_refl _)) (by rw [Hpsz.out]; kernel_rfl) (by rw [Hps.out]; exact all_oneCell_toArray (one_pend _ _)) ?_; rw [alloc_all _ zp ps (by rw [Hzs.out, Hpsz.out])]))
          generalize hw1 : (wr.alloc (.cells ps 62)) = w1 at *
          generalize hB0 : wr.heap.size = B0 at *
          clear hcell hrP' hD hT hgS hgP hw1 hB0 hb1
          go_loopw [31] (fun i wx => ∃ j : Nat, j ≤ 64 ∧ i = .int .i64 j ∧ Hid (Rdk wx base own g (s.mid ch k p.1 (mix 3 d0 p.2 j)) (.slice (some ⟨gS, 0, none⟩) (s.crash ch k).secs.length cS) (.slice (some ⟨gP, 0, none⟩) s.pend.length cP)) ∧ Hid (wx.rangeAt B0 0 ps.toList ∧ B0 < wx.heap.size) ∧ Hid (Turns own w wx)) (fun i _ => 64 - (intOf i).toNat)
          case atStart => exact ⟨0, Nat.zero_le _, rfl, by show Rdk _ _ _ _ _ _ _; rw [mix_zero, mid_same Hd0s.out]; exact HD1.out, HR1, HT1⟩
          case round =>
            obtain ⟨j, hj64, rfl, hD2, hR2, hT2⟩ := hrel
            clear HD1 HR1 HT1
            have hj0 : (0 : Int) ≤ (j : Int) := by omega
            by_cases hj : j < 64
            · have hj' : (j : Int) < 64 := by omega
              obtain ⟨x, hx⟩ : ∃ x, p.2[j]? = some x := ⟨_, List.getElem?_eq_getElem (by rw [Hpl.out]; exact hj)⟩
              have Hx := Lib.hid hx
              have hbyte := hR2.out.1 (1 + j) (.int .u8 (x.toNat : Int)) (by rw [Hps.out, Nat.add_comm]; simp [bvs, bv, hx])
              rw [Nat.zero_add] at hbyte
              have Hbyte := Lib.hid hbyte
              clear hx hbyte
              by_cases hj32 : 32 ≤ j
              · have l2 : decide ((32 : Int) ≤ (j : Int)) = true := decide_eq_true (by omega)
                have Hhit : Hid (hit 3 j) := (.inr (.inr ⟨rfl, hj32⟩))
                go_wp2
                refine AnyZ.start [13] (by kernel_rfl) rfl ?_
                apply AnyZ.pure (i := 0) rfl (by kernel_rfl) rfl rfl
                · intro w' K hK
                  go_wp2
                  exact hK
                · rfl
                apply AnyZ.pure (i := 1) rfl (by kernel_rfl) rfl rfl
                · intro w' K hK
                  go_wp2
                  exact hK
                · rfl
                apply AnyZ.pure (i := 2) rfl (by kernel_rfl) rfl rfl
                · intro w' K hK
                  go_wp2
                  exact hK
                · rfl
                apply AnyZ.take (i := 3) rfl (by kernel_rfl) (by kernel_rfl) rfl
                · intro w' hC K hK
                  have f0 := (hD2.out.below hC).field (i := 0) rfl
                  go_wp2
                  exact hK
                · rfl
                apply AnyZ.pure (i := 4) rfl (by kernel_rfl) rfl rfl
                · intro w' K hK
                  go_wp2
                  exact hK
                · rfl
                apply AnyZ.take (i := 5) rfl (by kernel_rfl) (by kernel_rfl) rfl
                · intro w' hC K hK
                  have c0 := (hC.cell (p := ⟨B0, 0, none⟩) hR2.out.2).trans (hR2.out.1 0 _ (by rw [Hps.out]; rfl))
                  go_wp2
                  exact hK
                · rfl
                apply AnyZ.pure (i := 6) rfl (by kernel_rfl) rfl rfl
                · intro w' K hK
                  go_wp2
                  exact hK
                · rfl
                apply AnyZ.pure (i := 7) rfl (by kernel_rfl) rfl rfl
                · intro w' K hK
                  go_wp2
                  exact hK
                · rfl
                apply AnyZ.pure (i := 8) rfl (by kernel_rfl) rfl rfl
                · intro w' K hK
                  go_wp2
                  exact hK
                · rfl
                apply AnyZ.pure (i := 9) rfl (by kernel_rfl) rfl rfl
                · intro w' K hK
                  go_wp2
                  exact hK
                · rfl
                apply AnyZ.take (i := 10) rfl (by kernel_rfl) (by kernel_rfl) rfl
                · intro w' hC K hK
                  have c1 := (hC.cell (p := ⟨B0, 1 + j, none⟩) hR2.out.2).trans Hbyte.out
                  go_wp2
                  exact hK
                · rfl
                apply AnyZ.pure (i := 11) rfl (by kernel_rfl) rfl rfl
                · intro w' K hK
                  go_wp2
                  exact hK
                · rfl
                apply AnyZ.pure (i := 12) rfl (by kernel_rfl) rfl rfl
                · intro w' K hK
                  go_wp2
                  exact hK
                · rfl
                apply AnyZ.soloW (i := 13) rfl (by kernel_rfl)
                intro w3 hC3
                have hD3 := hD2.out.below hC3
                obtain ⟨y, hy⟩ : ∃ y, (mix 3 d0 p.2 j)[j]? = some y := ⟨_, List.getElem?_eq_getElem (by rw [mix_len Hd0.out Hpl.out (by omega)]; exact hj)⟩
                have hsec : (s.mid ch k p.1 (mix 3 d0 p.2 j)).secs[p.1]? = some (mix 3 d0 p.2 j) := List.getElem?_set_self Hpk.out
                obtain ⟨gS', cS', hS', -, -, hr3, ht3⟩ := hD3.secAt hsec
                obtain rfl : gS = gS' := by injection hS' with e; injection e with e; injection e
                have hc3 : w3.cell? ⟨gS, p.1 * 64 + j, none⟩ = some (.int .u8 (y.toNat : Int)) := hr3 j _ (by simp [bvs, bv, hy])
                have hz3 := (ht3 j hj).2
                have hfin := hD3.secPart (k := p.1) (o := j) (old := mix 3 d0 p.2 j) (e := [x]) (gS := gS) (c := cS) (by rw [show (s.mid ch k p.1 (mix 3 d0 p.2 j)).secs.length = (s.crash ch k).secs.length from List.length_set]) hsec (by simp; omega)
                have Hfin := Lib.hid hfin
                have HT3 := Lib.hid (hT2.out.trans (Turns.of_below hC3))
                have hR3 : Hid (w3.rangeAt B0 0 ps.toList ∧ B0 < w3.heap.size) := ⟨fun i v hv => (hC3.cell (p := ⟨B0, 0 + i, none⟩) hR2.out.2).trans (hR2.out.1 i v hv), Nat.lt_of_lt_of_le hR2.out.2 hC3.size⟩
                clear hfin hS' hr3 ht3 hsec hy hD3
                go_wp2
                refine ⟨rfl, ?_⟩
                apply AnyW.done (by kernel_rfl)
                have hw4 : (w3.setCells gS (p.1 * 64 + j) (bvs [x])) = w3.setCell ⟨gS, p.1 * 64 + j, none⟩ (.int .u8 (x.toNat : Int)) := rfl
                have hR4 : Hid ((w3.setCell ⟨gS, p.1 * 64 + j, none⟩ (.int .u8 (x.toNat : Int))).rangeAt B0 0 ps.toList ∧ B0 < (w3.setCell ⟨gS, p.1 * 64 + j, none⟩ (.int .u8 (x.toNat : Int))).heap.size) := ⟨fun i v hv => (World.cell?_setCell_other w3 _ _ _ (fun e => HgB.out (by injection e))).trans (hR3.out.1 i v hv), by simpa [World.setCell] using hR3.out.2⟩
                have Hfin2 : Hid (Rdk (w3.setCell ⟨gS, p.1 * 64 + j, none⟩ (.int .u8 (x.toNat : Int))) base own g (s.mid ch k p.1 (mix 3 d0 p.2 (j + 1))) (.slice (some ⟨gS, 0, none⟩) (s.crash ch k).secs.length cS) (.slice (some ⟨gP, 0, none⟩) s.pend.length cP) ∧ Turns own w (w3.setCell ⟨gS, p.1 * 64 + j, none⟩ (.int .u8 (x.toNat : Int)))) := by
                  obtain ⟨h1, h2⟩ := Hfin.out
                  rw [hw4] at h1 h2
                  refine ⟨?_, HT3.out.trans h2⟩
                  rw [mix_hit Hd0.out Hpl.out hj Hx.out Hhit.out]
                  have h3 : (s.mid ch k p.1 ((mix 3 d0 p.2 j).take j ++ ([x] ++ (mix 3 d0 p.2 j).drop (j + 1)))) = { s.mid ch k p.1 (mix 3 d0 p.2 j) with secs := (s.mid ch k p.1 (mix 3 d0 p.2 j)).secs.set p.1 ((mix 3 d0 p.2 j).take j ++ ([x] ++ (mix 3 d0 p.2 j).drop (j + [x].length))) } := by
                    unfold DS.mid
                    simp only [List.set_set, List.length_singleton]
                  rw [h3]
                  exact h1
                generalize (w3.setCell ⟨gS, p.1 * 64 + j, none⟩ (.int .u8 (x.toNat : Int))) = w4 at *
                clear Hfin HT3 hR3 hw4
                go_wp2
                go_roundw
                case rel => exact ⟨j + 1, hj, by go_num, Hfin2.out.1, hR4, Hfin2.out.2⟩
                case measure => simp [intOf]; omega
              · have l2 : decide ((32 : Int) ≤ (j : Int)) = false := decide_eq_false (by omega)
                have Hmiss : Hid (¬ hit 3 j) := (fun h => by rcases h with h | ⟨h, _⟩ | ⟨_, h⟩; (cases h); (cases h); exact hj32 h)
                go_wp2
                go_roundw
                case rel => exact ⟨j + 1, hj, by go_num, by rw [mix_miss Hd0.out Hpl.out hj Hmiss.out]; exact hD2.out, hR2, hT2⟩
                case measure => simp [intOf]; omega
            · obtain rfl : j = 64 := by omega
              have hmx := Hmx.out
              go_wp2
              go_roundw
              case rel => exact ⟨k + 1, hlt, by go_num, by show Rdk _ _ _ _ _ _ _; rw [Hend.out, Hcd.out, ← mix_all Hd0.out Hpl.out]; exact hD2.out, hT2⟩
              case measure => simp [intOf]; omega
        · skip
          have v1 : ((c.toNat : Int) == 1) = false := ne8 hc1 rfl
          have v2 : ((c.toNat : Int) == 2) = false := ne8 hc2 rfl
          have v3 : ((c.toNat : Int) == 3) = false := ne8 hc3 rfl
          have HD1 := Lib.hid hD1
          have HT1 := Lib.hid hT1
          have HR1 := Lib.hid (And.intro hr1 hs1)
          clear hD1 hT1 hr1 hs1
          go_wp2_with (first
            | (refine wpList_load_mid rfl _ _ rfl gP (k * 65) rfl (Value.int .i64 (p.1 : Int) :: bvs p.2) _ hrP'.out Try.underlying62 rfl (by rw [List.length_cons, bvs_length, Hpl.out]; kernel_rfl) ?_; rw [← Hps.out])
            | (refine wpList_store_mid rfl _ _ _ rfl wr.heap.size 0 ps rfl rfl (by rw [Hpsz.out]; exact there_new wr _ _ 65 (by rw [Hzs.out]; exact Nat.le_refl _)) (by rw [Hpsz.out]; kernel_rfl) (by rw [Hps.out]; exact all_oneCell_toArray (one_pend _ _)) ?_; rw [alloc_all _ zp ps (by rw [Hzs.out, Hpsz.out])]))
          generalize hw1 : (wr.alloc (.cells ps 62)) = w1 at *
          generalize hB0 : wr.heap.size = B0 at *
          clear hcell hrP' hD hT hgS hgP hw1 hB0 hb1
          go_loopw [31] (fun i wx => ∃ j : Nat, j ≤ 64 ∧ i = .int .i64 j ∧ Hid (Rdk wx base own g (s.mid ch k p.1 (mix c d0 p.2 j)) (.slice (some ⟨gS, 0, none⟩) (s.crash ch k).secs.length cS) (.slice (some ⟨gP, 0, none⟩) s.pend.length cP)) ∧ Hid (wx.rangeAt B0 0 ps.toList ∧ B0 < wx.heap.size) ∧ Hid (Turns own w wx)) (fun i _ => 64 - (intOf i).toNat)
          case atStart => exact ⟨0, Nat.zero_le _, rfl, by show Rdk _ _ _ _ _ _ _; rw [mix_zero, mid_same Hd0s.out]; exact HD1.out, HR1, HT1⟩
          case round =>
            obtain ⟨j, hj64, rfl, hD2, hR2, hT2⟩ := hrel
            clear HD1 HR1 HT1
            have hj0 : (0 : Int) ≤ (j : Int) := by omega
            by_cases hj : j < 64
            · have hj' : (j : Int) < 64 := by omega
              obtain ⟨x, hx⟩ : ∃ x, p.2[j]? = some x := ⟨_, List.getElem?_eq_getElem (by rw [Hpl.out]; exact hj)⟩
              have Hx := Lib.hid hx
              have hbyte := hR2.out.1 (1 + j) (.int .u8 (x.toNat : Int)) (by rw [Hps.out, Nat.add_comm]; simp [bvs, bv, hx])
              rw [Nat.zero_add] at hbyte
              have Hbyte := Lib.hid hbyte
              clear hx hbyte
              have Hmiss : Hid (¬ hit c j) := (fun h => by rcases h with h | ⟨h, _⟩ | ⟨h, _⟩; (exact hc1 h); (exact hc2 h); exact hc3 h)
              go_wp2
              go_roundw
              case rel => exact ⟨j + 1, hj, by go_num, by rw [mix_miss Hd0.out Hpl.out hj Hmiss.out]; exact hD2.out, hR2, hT2⟩
              case measure => simp [intOf]; omega
            · obtain rfl : j = 64 := by omega
              have hmx := Hmx.out
              go_wp2
              go_roundw
              case rel => exact ⟨k + 1, hlt, by go_num, by show Rdk _ _ _ _ _ _ _; rw [Hend.out, Hcd.out, ← mix_all Hd0.out Hpl.out]; exact hD2.out, hT2⟩
              case measure => simp [intOf]; omega
      · have hkl' : ¬ (k : Int) < (ch.length : Int) := by omega
        have hdl : decide ((k : Int) < (ch.length : Int)) = false := decide_eq_false hkl'
        have hdl2 : decide (k < ch.length) = false := decide_eq_false hkl
        have hcd : ch.getD k 0 = 0 := by rw [List.getD_eq_getElem?_getD, List.getElem?_eq_none (by omega)]; rfl
        have Hcd := Lib.hid hcd
        have HD1 := Lib.hid hD1
        have HT1 := Lib.hid hT1
        clear hD1 hT1 hr1 hs1 hkl hkl' hcd
        go_wp2_with (first
          | (refine wpList_load_mid rfl _ _ rfl gP (k * 65) rfl (Value.int .i64 (p.1 : Int) :: bvs p.2) _ hrP'.out Try.underlying62 rfl (by rw [List.length_cons, bvs_length, Hpl.out]; kernel_rfl) ?_; rw [← Hps.out])
          | (refine wpList_store_mid rfl _ _ _ rfl wr.heap.size 0 ps rfl rfl (by rw [Hpsz.out]; exact there_new wr _ _ 65 (by rw [Hzs.out]; exact Nat.le_refl _)) (by rw [Hpsz.out]; kernel_rfl) (by rw [Hps.out]; exact all_oneCell_toArray (one_pend _ _)) ?_; rw [alloc_all _ zp ps (by rw [Hzs.out, Hpsz.out])]))
        generalize hw1 : (wr.alloc (.cells ps 62)) = w1 at *
        clear hrP' hD hT hgS hgP hw1 hb1
        go_loopw [31] (fun i wx => ∃ j : Nat, j ≤ 64 ∧ i = .int .i64 j ∧ Hid (Rdk wx base own g (s.crash ch k) (.slice (some ⟨gS, 0, none⟩) (s.crash ch k).secs.length cS) (.slice (some ⟨gP, 0, none⟩) s.pend.length cP)) ∧ Hid (Turns own w wx)) (fun i _ => 64 - (intOf i).toNat)
        case atStart => exact ⟨0, Nat.zero_le _, rfl, HD1, HT1⟩
        case round =>
          obtain ⟨j, hj64, rfl, hD2, hT2⟩ := hrel
          clear HD1 HT1
          have hj0 : (0 : Int) ≤ (j : Int) := by omega
          by_cases hj : j < 64
          · have hj' : (j : Int) < 64 := by omega
            go_wp2
            go_roundw
            case rel => exact ⟨j + 1, hj, by go_num, hD2, hT2⟩
            case measure => simp [intOf]; omega
          · obtain rfl : j = 64 := by omega
            have hmx := Hmx.out
            go_wp2
            go_roundw
            case rel => exact ⟨k + 1, hlt, by go_num, by show Rdk _ _ _ _ _ _ _; rw [Hend.out, Hcd.out, show crash1 0 d0 p.2 = d0 from rfl, mid_same Hd0s.out]; exact hD2.out, hT2⟩
            case measure => simp [intOf]; omega
    · obtain rfl : k = s.pend.length := by omega
      have f1 := hD.out.field (i := 1) rfl
      have f3 := hD.out.field (i := 3) rfl
      have f4 := hD.out.field (i := 4) rfl
      have hfz := hD.out.unfrozen
      go_wp2
      go_end0
      exact ⟨rfl, restE_end hD.out hT.out⟩
end Go.Proofs.Ytdggibigfocadaa
