/- ours: the walk. No conditions. -/
import Derived.Test.YtjichadkonlfpaaDoorH17
namespace Go.Proofs.YtjichadkonlfpaaDoor
open Go.RowKit
set_option maxRecDepth 100000 in
set_option maxHeartbeats 4000000 in
theorem ours_any (w : World) (v : Value) (rs : List Req) (h : RR w v rs) (hn : rs.length ≤ 100000) (hh : ∀ q ∈ rs, q.hs.length ≤ 1000000000) :
    Calls Tryd.prog 13 #[v] w fun e w' => ∃ v', e = .returned v' ∧ RR w' v' rs ∧ Below w.heap.size w w' := by
  obtain ⟨L, hL, ⟨A, c, rfl, hr⟩, hx⟩ := h
  obtain ⟨n, hn0⟩ : ∃ n, n = rs.length := ⟨_, rfl⟩
  have hLn : L.length = n := by rw [hn0, ← hL]; simp
  rw [← hn0] at hr ⊢
  have hnI : (n : Int) ≤ 100000 := by omega
  have HL_ := Lib.hid hL
  have HLN := Lib.hid hLn
  have HR := Lib.hid hr
  have HX := Lib.hid hx
  have HH := Lib.hid hh
  have HN0 := Lib.hid hn0
  have zq := zeroRq
  obtain ⟨i0, hi0, hz0, hz1, hz2⟩ := info_parts rqinfo
  have HI0 := Lib.hid hi0
  have HZ0 := Lib.hid hz0
  have HZ1 := Lib.hid hz1
  have HZ2 := Lib.hid hz2
  obtain ⟨i1, ki0, kz0, kz1, kz2⟩ := info_parts rhinfo
  have KI0 := Lib.hid ki0
  have KZ0 := Lib.hid kz0
  have KZ1 := Lib.hid kz1
  have KZ2 := Lib.hid kz2
  clear hr hx hh hn hn0 hL hLn hi0 hz0 hz1 hz2 ki0 kz0 kz1 kz2
  go_enter Tryd.func13, Tryd.ntmps13
  go_wp2
  go_loopw [3, 9] (fun d i wr => ∃ k : Nat, k ≤ n ∧ i = .int .i64 (k : Int) ∧ Hid (∃ M, Outs w wr d M ∧ M.map (·.1) = rs.take k)) (fun _ i _ => n - (intOf i).toNat)
  case atStart => exact ⟨0, Nat.zero_le _, rfl, [], Outs.start w, by simp⟩
  case round =>
    obtain ⟨k, hk, rfl, hO⟩ := hrel
    by_cases hlt : k < n
    · obtain ⟨wo, rfl⟩ : ∃ wo, wo = wr := ⟨_, rfl⟩
      obtain ⟨M, hM, hMk⟩ := hO.out
      have HM := Lib.hid hM
      have HMK := Lib.hid hMk
      have hlt' : (k : Int) < (n : Int) := by omega
      have hk0 : (0 : Int) ≤ (k : Int) := by omega
      have hkL : k < L.length := by rw [HLN.out]; exact hlt
      obtain ⟨b, off, hA, hb, hat⟩ := rr_at HR.out HLN.out (by omega)
      subst hA
      obtain ⟨x, hxk⟩ : ∃ x, x = L[k] := ⟨_, rfl⟩
      obtain ⟨⟨Ah, ch, hxh, hrh⟩, ⟨Ab, cb, hxb, hrb⟩⟩ := HX.out x (by rw [hxk]; exact List.getElem_mem hkL)
      obtain ⟨q, Hv, Bv⟩ := x
      simp only at hxh hrh hxb hrb
      subst hxh hxb
      obtain ⟨j0, hj0⟩ : ∃ j, j = q.hs.length := ⟨_, rfl⟩
      rw [← hj0] at hxk hrh
      have hqm : q ∈ rs := by
        rw [← HL_.out]
        exact List.mem_map.2 ⟨L[k], List.getElem_mem hkL, by rw [← hxk]⟩
      have hjb : j0 ≤ 1000000000 := by rw [hj0]; exact HH.out q hqm
      have hj0I : (j0 : Int) ≤ 1000000000 := by omega
      have HJ0 := Lib.hid hj0
      have hqk : rs[k]? = some q := by rw [← HL_.out, List.getElem?_map, List.getElem?_eq_getElem hkL, ← hxk]; rfl
      have HQK := Lib.hid hqk
      have HRH := Lib.hid hrh
      have HRB := Lib.hid hrb
      have CC : Hid (∀ w', Below wo.heap.size wo w' → w'.cell? ⟨b, off + k * 5, none⟩ = some (.string ⟨q.m.toArray⟩) ∧ w'.cell? ⟨b, off + k * 5 + 1, none⟩ = some (.string ⟨q.t.toArray⟩) ∧ w'.cell? ⟨b, off + k * 5 + 2, none⟩ = some (.slice Ah j0 ch) ∧ w'.cell? ⟨b, off + k * 5 + 3, none⟩ = some (.slice Ab q.bd.length cb) ∧ w'.cell? ⟨b, off + k * 5 + 4, none⟩ = some (.bool q.cl)) := by
        intro w' hw'
        have h1 := hat w' (HM.out.bel.trans (hw'.mono HM.out.bel.size)) k hkL
        rw [← hxk] at h1
        exact ⟨h1 0 _ rfl, h1 1 _ rfl, h1 2 _ rfl, h1 3 _ rfl, h1 4 _ rfl⟩
      obtain ⟨ms, hms⟩ : ∃ ms : ByteArray, ms = ⟨q.m.toArray⟩ := ⟨_, rfl⟩
      obtain ⟨ts, hts⟩ : ∃ ts : ByteArray, ts = ⟨q.t.toArray⟩ := ⟨_, rfl⟩
      obtain ⟨nb, hnb⟩ : ∃ nb, nb = q.bd.length := ⟨_, rfl⟩
      obtain ⟨qc, hqc⟩ : ∃ qc, qc = q.cl := ⟨_, rfl⟩
      rw [← hms, ← hts, ← hnb, ← hqc] at CC
      have HMS := Lib.hid hms
      have HTS := Lib.hid hts
      have HNB := Lib.hid hnb
      have HQC := Lib.hid hqc
      have HK := Lib.hid hlt
      obtain ⟨Ad, cd, hd, _, _⟩ := ownR_form HM.out.row
      subst hd
      clear hM hMk hxk hrh hrb hj0 hqm hjb hqk hb hat hkL hms hts hnb hqc hO
      go_wp2
      obtain ⟨pc, hpc⟩ : ∃ pc : Array Value, pc = #[.string ms, .string ts, .slice none 0 0, .slice Ab nb cb, .bool qc] := ⟨_, rfl⟩
      have PB : Hid ((Tryd.prog).built 52 [(0, .string ms), (1, .string ts), (3, .slice Ab nb cb), (4, .bool qc)] = some pc) := by show _ = _; rw [hpc]; exact built_rq _ _ _ _ _ _
      have PZ : Hid (pc.size = 5) := by show _ = _; rw [hpc]; rfl
      have PO : Hid ((pc.all fun x => x.oneCell') = true) := by show _ = _; rw [hpc]; kernel_rfl
      have HPC := Lib.hid hpc
      clear hpc
      refine AnyC.startB (fun w' => Below wo.heap.size wo w') (by kernel_rfl) rfl ?_
      intro w1 hb1 hs1
      have HB1 := Lib.hid hb1
      have HS1 := Lib.hid hs1
      clear hb1 hs1
      apply AnyC.take (i := 0) rfl (by kernel_rfl) rfl
      · intro w' hC K hK
        go_wp2
        exact hK
      · rfl
      apply AnyC.take (i := 1) rfl (by kernel_rfl) rfl
      · intro w' hC K hK
        go_wp2
        exact hK
      · rfl
      apply AnyC.take (i := 2) rfl (by kernel_rfl) rfl
      · intro w' hC K hK
        go_wp2
        exact hK
      · rfl
      apply AnyC.take (i := 3) rfl (by kernel_rfl) rfl
      · intro w' hC K hK
        go_wp2
        exact hK
      · rfl
      apply AnyC.take (i := 4) rfl (by kernel_rfl) rfl
      · intro w' hC K hK
        have cc := (CC.out w' hC).1
        go_wp2
        exact hK
      · rfl
      apply AnyC.take (i := 5) rfl (by kernel_rfl) rfl
      · intro w' hC K hK
        go_wp2
        exact hK
      · rfl
      apply AnyC.take (i := 6) rfl (by kernel_rfl) rfl
      · intro w' hC K hK
        go_wp2
        exact hK
      · rfl
      apply AnyC.take (i := 7) rfl (by kernel_rfl) rfl
      · intro w' hC K hK
        go_wp2
        exact hK
      · rfl
      apply AnyC.take (i := 8) rfl (by kernel_rfl) rfl
      · intro w' hC K hK
        go_wp2
        exact hK
      · rfl
      apply AnyC.take (i := 9) rfl (by kernel_rfl) rfl
      · intro w' hC K hK
        have cc := (CC.out w' hC).2.1
        go_wp2
        exact hK
      · rfl
      apply AnyC.take (i := 10) rfl (by kernel_rfl) rfl
      · intro w' hC K hK
        go_wp2
        exact hK
      · rfl
      apply AnyC.take (i := 11) rfl (by kernel_rfl) rfl
      · intro w' hC K hK
        go_wp2
        exact hK
      · rfl
      apply AnyC.take (i := 12) rfl (by kernel_rfl) rfl
      · intro w' hC K hK
        go_wp2
        exact hK
      · rfl
      apply AnyC.take (i := 13) rfl (by kernel_rfl) rfl
      · intro w' hC K hK
        go_wp2
        exact hK
      · rfl
      apply AnyC.take (i := 14) rfl (by kernel_rfl) rfl
      · intro w' hC K hK
        have cc := (CC.out w' hC).2.2.2.1
        go_wp2
        exact hK
      · rfl
      apply AnyC.take (i := 15) rfl (by kernel_rfl) rfl
      · intro w' hC K hK
        go_wp2
        exact hK
      · rfl
      apply AnyC.take (i := 16) rfl (by kernel_rfl) rfl
      · intro w' hC K hK
        go_wp2
        exact hK
      · rfl
      apply AnyC.take (i := 17) rfl (by kernel_rfl) rfl
      · intro w' hC K hK
        go_wp2
        exact hK
      · rfl
      apply AnyC.take (i := 18) rfl (by kernel_rfl) rfl
      · intro w' hC K hK
        go_wp2
        exact hK
      · rfl
      apply AnyC.take (i := 19) rfl (by kernel_rfl) rfl
      · intro w' hC K hK
        have cc := (CC.out w' hC).2.2.2.2
        go_wp2
        exact hK
      · rfl
      apply AnyC.take (i := 20) rfl (by kernel_rfl) rfl
      · intro w' hC K hK
        refine wpList_build_to rfl _ _ rfl [(0, .string ms), (1, .string ts), (3, .slice Ab nb cb), (4, .bool qc)] rfl pc (by with_reducible exact PB.out) ?_
        go_wp2
        exact hK
      · rfl
      apply AnyC.solo (i := 21) rfl (by kernel_rfl) HB1.out
      go_wp2
      refine ⟨rfl, ?_⟩
      apply AnyC.solo (i := 22) rfl (by kernel_rfl) (HB1.out.alloc HB1.out.size _)
      refine wpList_store_row rfl _ _ _ rfl w1.heap.size pc rfl rfl 52 _ (heap_alloc_new w1 _) (by rw [PZ.out]; kernel_rfl) (by rw [PZ.out]; rfl) PO.out ?_
      have RN := row_new w1 #[.string ⟨#[]⟩, .string ⟨#[]⟩, .slice none 0 0, .slice none 0 0, .bool false] pc 52
      obtain ⟨wq, hwq⟩ : ∃ wq, wq = (w1.alloc (.cells #[.string ⟨#[]⟩, .string ⟨#[]⟩, .slice none 0 0, .slice none 0 0, .bool false] 52)).setRow w1.heap.size pc := ⟨_, rfl⟩
      rw [← hwq] at RN ⊢
      have RN1 := Lib.hid RN.1
      have RN2 := Lib.hid RN.2.1
      have BQ := Lib.hid (HB1.out.trans (RN.1.mono HB1.out.size))
      clear hwq RN
      go_wp2
      refine ⟨rfl, ?_⟩
      refine AnyC.done BQ.out (by kernel_rfl) ?_
      obtain ⟨gq, hgq⟩ : ∃ gq, gq = w1.heap.size := ⟨_, rfl⟩
      have GE : Hid (wo.heap.size ≤ gq) := by show _ ≤ _; rw [hgq]; exact HB1.out.size
      rw [← hgq] at RN2 ⊢
      have Q0 : Hid (QS wo wq gq q (.slice Ab nb cb) (.slice none 0 0) 0) := by
        refine ⟨by rw [← HMS.out, ← HTS.out, ← HQC.out, ← HPC.out]; exact RN2.out, World.ownsRow_nil _ _ _ 2, by simp [Value.ownBlock], GE.out, BQ.out⟩
      clear hgq
      have cc2 := (CC.out wq BQ.out).2.2.1
      go_wp2
      clear cc2
      go_loopw [39] (fun i wx => ∃ j : Nat, j ≤ j0 ∧ i = .int .i64 (j : Int) ∧ Hid (∃ H, QS wo wx gq q (.slice Ab nb cb) H j)) (fun i _ => j0 - (intOf i).toNat)
      case atStart => exact ⟨0, Nat.zero_le _, rfl, _, Q0.out⟩
      case round =>
        obtain ⟨j, hj, rfl, hO⟩ := hrel
        obtain ⟨Hq, hQ⟩ := hO.out
        obtain ⟨AH, cH, hHq, _, _⟩ := ownR_form hQ.own
        subst hHq
        have HQS := Lib.hid hQ
        clear hQ hO
        by_cases hlt2 : j < j0
        · have hlt2' : (j : Int) < (j0 : Int) := by omega
          have hj0' : (0 : Int) ≤ (j : Int) := by omega
          have hjl : j < q.hs.length := by rw [← HJ0.out]; exact hlt2
          obtain ⟨b2, off2, hA2, _, hat2⟩ := hdr_at HRH.out HJ0.out.symm (by omega)
          subst hA2
          obtain ⟨pp, hpp⟩ : ∃ pp, pp = q.hs[j] := ⟨_, rfl⟩
          obtain ⟨xs1, hx1⟩ : ∃ z : ByteArray, z = ⟨pp.1.toArray⟩ := ⟨_, rfl⟩
          obtain ⟨xs2, hx2⟩ : ∃ z : ByteArray, z = ⟨pp.2.toArray⟩ := ⟨_, rfl⟩
          have DD : Hid (∀ w', Below wo.heap.size wo w' → w'.cell? ⟨b2, off2 + j * 2, none⟩ = some (.string xs1) ∧ w'.cell? ⟨b2, off2 + j * 2 + 1, none⟩ = some (.string xs2)) := by
            intro w' hw'
            have h1 := hat2 w' (HM.out.bel.trans (hw'.mono HM.out.bel.size)) j hjl
            rw [← hpp] at h1
            rw [hx1, hx2]
            exact ⟨h1 0 _ rfl, h1 1 _ rfl⟩
          obtain ⟨hc, hhc⟩ : ∃ hc : Array Value, hc = #[.string xs1, .string xs2] := ⟨_, rfl⟩
          have KB : Hid ((Tryd.prog).built 54 [(0, .string xs1), (1, .string xs2)] = some hc) := by show _ = _; rw [hhc]; exact built_rh _ _
          have KZ : Hid (hc.size = 2) := by show _ = _; rw [hhc]; rfl
          have KO : Hid ((hc.all fun x => x.oneCell') = true) := by show _ = _; rw [hhc]; kernel_rfl
          have KL : Hid (hc.toList = [.string ⟨q.hs[j].1.toArray⟩, .string ⟨q.hs[j].2.toArray⟩]) := by show _ = _; rw [hhc, hx1, hx2, hpp]
          have HK2 := Lib.hid hlt2
          have HJB : Hid (j + 1 ≤ 1000000000) := by show _ ≤ _; omega
          have HJL := Lib.hid hjl
          clear hat2 hpp hx1 hx2 hhc
          go_wp2
          refine AnyCZ.start [24] (fun w' => w'.cell? ⟨gq, 2, none⟩ = some (.slice AH j cH) ∧ Below wo.heap.size wo w') (by kernel_rfl) rfl ?_
          intro w2 hb2
          have HB2 := Lib.hid hb2
          have c0 : Hid (w2.cell? ⟨gq, 2, none⟩ = some (.slice AH j cH) ∧ Below wo.heap.size wo w2) := ⟨by rw [cell_of_row w2 gq 2 _ _ _ (heap_below HQS.out.row hb2)]; rfl, HQS.out.bel.trans (hb2.mono HQS.out.bel.size)⟩
          clear hb2
          apply AnyCZ.take (i := 0) rfl (by kernel_rfl) (by kernel_rfl) rfl
          · intro w' hC K hK
            go_wp2
            exact hK
          · rfl
          apply AnyCZ.take (i := 1) rfl (by kernel_rfl) (by kernel_rfl) rfl
          · intro w' hC K hK
            have cc := hC.1
            go_wp2
            exact hK
          · rfl
          apply AnyCZ.take (i := 2) rfl (by kernel_rfl) (by kernel_rfl) rfl
          · intro w' hC K hK
            go_wp2
            exact hK
          · rfl
          apply AnyCZ.take (i := 3) rfl (by kernel_rfl) (by kernel_rfl) rfl
          · intro w' hC K hK
            go_wp2
            exact hK
          · rfl
          apply AnyCZ.take (i := 4) rfl (by kernel_rfl) (by kernel_rfl) rfl
          · intro w' hC K hK
            go_wp2
            exact hK
          · rfl
          apply AnyCZ.take (i := 5) rfl (by kernel_rfl) (by kernel_rfl) rfl
          · intro w' hC K hK
            go_wp2
            exact hK
          · rfl
          apply AnyCZ.take (i := 6) rfl (by kernel_rfl) (by kernel_rfl) rfl
          · intro w' hC K hK
            have cc := (CC.out w' hC.2).2.2.1
            go_wp2
            exact hK
          · rfl
          apply AnyCZ.take (i := 7) rfl (by kernel_rfl) (by kernel_rfl) rfl
          · intro w' hC K hK
            go_wp2
            exact hK
          · rfl
          apply AnyCZ.take (i := 8) rfl (by kernel_rfl) (by kernel_rfl) rfl
          · intro w' hC K hK
            go_wp2
            exact hK
          · rfl
          apply AnyCZ.take (i := 9) rfl (by kernel_rfl) (by kernel_rfl) rfl
          · intro w' hC K hK
            go_wp2
            exact hK
          · rfl
          apply AnyCZ.take (i := 10) rfl (by kernel_rfl) (by kernel_rfl) rfl
          · intro w' hC K hK
            have cc := (DD.out w' hC.2).1
            go_wp2
            exact hK
          · rfl
          apply AnyCZ.take (i := 11) rfl (by kernel_rfl) (by kernel_rfl) rfl
          · intro w' hC K hK
            go_wp2
            exact hK
          · rfl
          apply AnyCZ.take (i := 12) rfl (by kernel_rfl) (by kernel_rfl) rfl
          · intro w' hC K hK
            go_wp2
            exact hK
          · rfl
          apply AnyCZ.take (i := 13) rfl (by kernel_rfl) (by kernel_rfl) rfl
          · intro w' hC K hK
            go_wp2
            exact hK
          · rfl
          apply AnyCZ.take (i := 14) rfl (by kernel_rfl) (by kernel_rfl) rfl
          · intro w' hC K hK
            go_wp2
            exact hK
          · rfl
          apply AnyCZ.take (i := 15) rfl (by kernel_rfl) (by kernel_rfl) rfl
          · intro w' hC K hK
            have cc := (CC.out w' hC.2).2.2.1
            go_wp2
            exact hK
          · rfl
          apply AnyCZ.take (i := 16) rfl (by kernel_rfl) (by kernel_rfl) rfl
          · intro w' hC K hK
            go_wp2
            exact hK
          · rfl
          apply AnyCZ.take (i := 17) rfl (by kernel_rfl) (by kernel_rfl) rfl
          · intro w' hC K hK
            go_wp2
            exact hK
          · rfl
          apply AnyCZ.take (i := 18) rfl (by kernel_rfl) (by kernel_rfl) rfl
          · intro w' hC K hK
            go_wp2
            exact hK
          · rfl
          apply AnyCZ.take (i := 19) rfl (by kernel_rfl) (by kernel_rfl) rfl
          · intro w' hC K hK
            have cc := (DD.out w' hC.2).2
            go_wp2
            exact hK
          · rfl
          apply AnyCZ.take (i := 20) rfl (by kernel_rfl) (by kernel_rfl) rfl
          · intro w' hC K hK
            refine wpList_build_to rfl _ _ rfl [(0, .string xs1), (1, .string xs2)] rfl hc (by with_reducible exact KB.out) ?_
            go_wp2
            exact hK
          · rfl
          apply AnyCZ.solo (i := 21) rfl (by kernel_rfl) c0.out
          refine slice1 (cs := hc) (s := 2) rfl rfl rfl KZ.out Tryd.underlying50 KI0.out KZ0.out KZ1.out (by decide) ?_
          go_wp2
          refine ⟨rfl, ?_⟩
          have B4 : Hid (Below w2.heap.size w2 (w2.alloc (.cells hc 54))) := (Below.refl _ _).alloc (Nat.le_refl _) _
          have HB4 := Lib.hid (HB2.out.trans (B4.out.mono HB2.out.size))
          apply AnyCZ.solo (i := 22) rfl (by kernel_rfl) ⟨(B4.out.cell (p := ⟨gq, 2, none⟩) (Nat.lt_of_lt_of_le (lt_of_heap HQS.out.row) HB2.out.size)).trans c0.out.1, c0.out.2.trans (B4.out.mono c0.out.2.size)⟩
          refine app1 (cs := hc) (n := j) (xs := hsV (q.hs.take j)) (base := wo.heap.size) rfl rfl rfl rfl Tryd.underlying50 KI0.out KZ0.out KZ1.out KZ2.out rfl (by decide) (ownR_below HQS.out.own HB4.out) (heap_alloc_new _ _) KZ.out KO.out (by have h_ := HJB.out; omega) (by have h_ := HJB.out; omega) (Nat.le_trans HQS.out.bel.size HB4.out.size) ?_
          intro v5 w5 ho hg hx
          rw [KL.out] at ho
          obtain ⟨A5, c5, hv5, _, _⟩ := ownR_form ho
          subst hv5
          have QQ := HQS.out.put HJL.out HB4.out ho hg hx
          obtain ⟨e2', f2', B5, S5⟩ := QQ
          have HB5 := Lib.hid B5
          have HS5 := Lib.hid S5
          clear B5 S5 ho hg hx
          go_wp2
          refine ⟨rfl, ?_⟩
          apply AnyCZ.take (i := 23) rfl (by kernel_rfl) (by kernel_rfl) rfl
          · intro w' hC K hK
            go_wp2
            exact hK
          · rfl
          apply AnyCZ.soloW (i := 24) rfl (by kernel_rfl) ⟨e2', HB5.out⟩
          go_wp2
          refine ⟨rfl, ?_⟩
          refine AnyW.done (by kernel_rfl) ?_
          go_wp2
          go_roundw
          case rel => exact ⟨j + 1, HK2.out, by go_num, _, HS5.out⟩
          case measure => simp [intOf]; omega
        · obtain rfl : j = j0 := by omega
          obtain ⟨qa, hqa⟩ : ∃ qa : Array Value, qa = #[.string ⟨q.m.toArray⟩, .string ⟨q.t.toArray⟩, .slice AH j cH, .slice Ab nb cb, .bool q.cl] := ⟨_, rfl⟩
          have QZ : Hid (qa.size = 5) := by show _ = _; rw [hqa]; rfl
          have QO : Hid ((qa.all fun x => x.oneCell') = true) := by show _ = _; rw [hqa]; kernel_rfl
          have QL : Hid (qa.toList = reqC (q, .slice AH j cH, .slice Ab nb cb)) := by show _ = _; rw [hqa]; rfl
          have RG : Hid (wr.rangeAt gq 0 qa.toList) := by show World.rangeAt _ _ _ _; rw [hqa]; exact range_row HQS.out.row
          have BL : Hid (Below wr.heap.size wr (wr.alloc (.cells qa 52))) := (Below.refl _ wr).alloc (Nat.le_refl _) _
          have MB : Hid (M.length + 1 ≤ 100001) := by
            show _ ≤ _
            have h1 := congrArg List.length HMK.out
            rw [List.length_map, List.length_take] at h1
            have h2 := HN0.out
            omega
          have X1 : Hid (wr.ownsRow wo.heap.size 54 2 (.slice AH j cH) q.hs.length (hsV q.hs)) := by
            show World.ownsRow _ _ _ _ _ _ _
            have h1 := HQS.out.own
            rw [HJ0.out, List.take_length] at h1
            rw [HJ0.out]
            exact h1
          have X2 : Hid (∃ A c, Value.slice Ab nb cb = .slice A q.bd.length c ∧ Reads w w.heap.size 1 A q.bd.length (bvs q.bd)) := ⟨Ab, cb, by rw [HNB.out], HRB.out⟩
          clear hqa
          go_wp2_with (first
            | (refine wpList_load_arr rfl _ _ rfl gq 0 rfl qa _ (by with_reducible exact RG.out) Tryd.underlying52 rfl (by rw [QZ.out]; kernel_rfl) ?_)
            | (refine slice1 (cs := qa) (s := 5) rfl rfl rfl QZ.out Tryd.underlying41 HI0.out HZ0.out HZ1.out (by decide) ?_)
            | (at_builtin; go_must (refine app1 (cs := qa) (n := M.length) (xs := reqsV M) (base := w.heap.size) rfl rfl rfl rfl Tryd.underlying41 HI0.out HZ0.out HZ1.out HZ2.out rfl (by decide) ((HM.out.below HQS.out.bel).below BL.out).row (heap_alloc_new _ _) QZ.out QO.out (by have h_ := MB.out; omega) (by have h_ := MB.out; omega) (Nat.le_trans (HM.out.below HQS.out.bel).bel.size BL.out.size) ?_; intro v5 w5 ho hg hx; rw [QL.out] at ho; have OO := HM.out.put HQS.out.bel X1.out X2.out BL.out ho hg hx; obtain ⟨A5, c5, hv5, _, _⟩ := ownR_form ho; subst hv5; have HOO := Lib.hid OO; clear OO ho hg hx)))
          go_roundw
          case rel => exact ⟨k + 1, HK.out, by go_num, _, HOO.out, by rw [List.map_append, HMK.out, List.take_add_one, HQK.out]; rfl⟩
          case measure => simp [intOf]; omega
    · obtain rfl : k = n := by omega
      obtain ⟨M, hM, hMk⟩ := hO.out
      obtain ⟨Ad, cd, hd, _, _⟩ := ownR_form hM.row
      subst hd
      have HM := Lib.hid hM
      have HMK : Hid (M.map (·.1) = rs) := by show _ = _; rw [hMk, HN0.out, List.take_length]
      clear hM hMk hO
      go_wp2
      go_ret
      exact ⟨_, rfl, by rw [← HMK.out]; exact HM.out.rr, HM.out.bel⟩
end Go.Proofs.YtjichadkonlfpaaDoor
