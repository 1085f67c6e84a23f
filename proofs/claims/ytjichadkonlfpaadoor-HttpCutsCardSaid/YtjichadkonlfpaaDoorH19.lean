/- SameRequests: two readings of one list are the same. Printed by wip/genH19.py. No conditions. -/
import Derived.Test.YtjichadkonlfpaaDoorH19a
namespace Go.Proofs.YtjichadkonlfpaaDoor
open Go.RowKit
set_option maxRecDepth 100000 in
set_option maxHeartbeats 8000000 in
theorem same_any (w : World) (v1 v2 : Value) (rs : List Req) (h1 : RR w v1 rs) (h2 : RR w v2 rs) (hn : rs.length ≤ 100000) (hh : ∀ q ∈ rs, q.hs.length ≤ 1000000000) (hb : ∀ q ∈ rs, q.bd.length ≤ 1000000000) :
    Calls Tryd.prog 12 #[v1, v2] w fun e w' => e = .returned (.bool true) ∧ Below w.heap.size w w' := by
  obtain ⟨L1, hL1, ⟨A1, c1, rfl, hr1⟩, hx1⟩ := h1
  obtain ⟨L2, hL2, ⟨A2, c2, rfl, hr2⟩, hx2⟩ := h2
  obtain ⟨n, hn0⟩ : ∃ n, n = rs.length := ⟨_, rfl⟩
  have hl1 : L1.length = n := by rw [hn0, ← hL1]; simp
  have hl2 : L2.length = n := by rw [hn0, ← hL2]; simp
  rw [← hn0] at hr1 hr2 ⊢
  have hnI : (n : Int) ≤ 100000 := by omega
  have HL1 := Lib.hid hL1
  have HL2 := Lib.hid hL2
  have LN1 := Lib.hid hl1
  have LN2 := Lib.hid hl2
  have HR1 := Lib.hid hr1
  have HR2 := Lib.hid hr2
  have HX1 := Lib.hid hx1
  have HX2 := Lib.hid hx2
  have HH := Lib.hid hh
  have HBB := Lib.hid hb
  have zq := zeroRq
  clear hr1 hr2 hx1 hx2 hh hb hn hn0 hL1 hL2 hl1 hl2
  go_enter Tryd.func12, Tryd.ntmps12
  go_wp2
  go_loopw [16] (fun i wr => ∃ k : Nat, k ≤ n ∧ i = .int .i64 (k : Int) ∧ Hid (Below w.heap.size w wr)) (fun i _ => n - (intOf i).toNat)
  case atStart => exact ⟨0, Nat.zero_le _, rfl, Below.refl _ _⟩
  case round =>
    obtain ⟨wo, rfl⟩ : ∃ wo, wo = wr := ⟨_, rfl⟩
    obtain ⟨k, hk, rfl, hO⟩ := hrel
    by_cases hlt : k < n
    · have hlt' : (k : Int) < (n : Int) := by omega
      have hk0 : (0 : Int) ≤ (k : Int) := by omega
      have hk1 : k < L1.length := by rw [LN1.out]; exact hlt
      have hk2 : k < L2.length := by rw [LN2.out]; exact hlt
      obtain ⟨b1, o1, hA1, _, hat1⟩ := rr_at HR1.out LN1.out (by omega)
      obtain ⟨b2, o2, hA2, _, hat2⟩ := rr_at HR2.out LN2.out (by omega)
      subst hA1 hA2
      obtain ⟨x, hxk⟩ : ∃ x, x = L1[k] := ⟨_, rfl⟩
      obtain ⟨y, hyk⟩ : ∃ y, y = L2[k] := ⟨_, rfl⟩
      have hxy : x.1 = y.1 := by
        have e1 : (L1.map (·.1))[k]? = some x.1 := by rw [List.getElem?_map, List.getElem?_eq_getElem hk1, ← hxk]; rfl
        have e2 : (L2.map (·.1))[k]? = some y.1 := by rw [List.getElem?_map, List.getElem?_eq_getElem hk2, ← hyk]; rfl
        rw [HL1.out] at e1
        rw [HL2.out] at e2
        exact Option.some.inj (e1.symm.trans e2)
      obtain ⟨⟨Ah1, ch1, hxh1, hrh1⟩, ⟨Ab1, cb1, hxb1, hrb1⟩⟩ := HX1.out x (by rw [hxk]; exact List.getElem_mem hk1)
      obtain ⟨⟨Ah2, ch2, hxh2, hrh2⟩, ⟨Ab2, cb2, hxb2, hrb2⟩⟩ := HX2.out y (by rw [hyk]; exact List.getElem_mem hk2)
      obtain ⟨q, H1, B1⟩ := x
      obtain ⟨q2, H2, B2⟩ := y
      simp only at hxh1 hrh1 hxb1 hrb1 hxh2 hrh2 hxb2 hrb2 hxy
      subst hxy hxh1 hxb1 hxh2 hxb2
      have hqm : q ∈ rs := by
        rw [← HL1.out]
        exact List.mem_map.2 ⟨L1[k], List.getElem_mem hk1, by rw [← hxk]⟩
      obtain ⟨j0, hj0⟩ : ∃ j, j = q.hs.length := ⟨_, rfl⟩
      obtain ⟨nb, hnb⟩ : ∃ j, j = q.bd.length := ⟨_, rfl⟩
      rw [← hj0] at hxk hyk hrh1 hrh2
      rw [← hnb] at hxk hyk hrb1 hrb2
      have hj0I : (j0 : Int) ≤ 1000000000 := by have := HH.out q hqm; omega
      have HJ0 := Lib.hid hj0
      have HRH1 := Lib.hid hrh1
      have HRH2 := Lib.hid hrh2
      have HRB1 := Lib.hid hrb1
      have HRB2 := Lib.hid hrb2
      obtain ⟨ms, hms⟩ : ∃ z : ByteArray, z = ⟨q.m.toArray⟩ := ⟨_, rfl⟩
      obtain ⟨ts, hts⟩ : ∃ z : ByteArray, z = ⟨q.t.toArray⟩ := ⟨_, rfl⟩
      obtain ⟨bs, hbs⟩ : ∃ z : ByteArray, z = ⟨q.bd.toArray⟩ := ⟨_, rfl⟩
      obtain ⟨qc, hqc⟩ : ∃ z, z = q.cl := ⟨_, rfl⟩
      obtain ⟨px, hpx⟩ : ∃ z : Array Value, z = #[.string ms, .string ts, .slice Ah1 j0 ch1, .slice Ab1 nb cb1, .bool qc] := ⟨_, rfl⟩
      obtain ⟨py, hpy⟩ : ∃ z : Array Value, z = #[.string ms, .string ts, .slice Ah2 j0 ch2, .slice Ab2 nb cb2, .bool qc] := ⟨_, rfl⟩
      have RX : Hid (∀ w', Below wo.heap.size wo w' → w'.rangeAt b1 (o1 + k * 5) px.toList) := by
        intro w' hw'
        have h1 := hat1 w' (hO.out.trans (hw'.mono hO.out.size)) k hk1
        rw [← hxk] at h1
        rw [hpx, hms, hts, hqc]
        exact h1
      have RY : Hid (∀ w', Below wo.heap.size wo w' → w'.rangeAt b2 (o2 + k * 5) py.toList) := by
        intro w' hw'
        have h1 := hat2 w' (hO.out.trans (hw'.mono hO.out.size)) k hk2
        rw [← hyk] at h1
        rw [hpy, hms, hts, hqc]
        exact h1
      have ZX : Hid (px.size = 5) := by show _ = _; rw [hpx]; rfl
      have ZY : Hid (py.size = 5) := by show _ = _; rw [hpy]; rfl
      have OX : Hid ((px.all fun x => x.oneCell') = true) := by show _ = _; rw [hpx]; kernel_rfl
      have OY : Hid ((py.all fun x => x.oneCell') = true) := by show _ = _; rw [hpy]; kernel_rfl
      have SX : Hid (∀ w', Below wo.heap.size wo w' → (convert 24 9 (.slice Ab1 nb cb1)).run Tryd.prog w' = .ok (.string bs) w') := by
        intro w' hw'
        rw [hbs]
        exact run_str8 (HRB1.out.below (hO.out.trans (hw'.mono hO.out.size))) cb1
      have SY : Hid (∀ w', Below wo.heap.size wo w' → (convert 24 9 (.slice Ab2 nb cb2)).run Tryd.prog w' = .ok (.string bs) w') := by
        intro w' hw'
        rw [hbs]
        exact run_str8 (HRB2.out.below (hO.out.trans (hw'.mono hO.out.size))) cb2
      have HK := Lib.hid hlt
      have HPX := Lib.hid hpx
      have HPY := Lib.hid hpy
      clear hms hts hbs hqc hpx hpy hxk hyk hat1 hat2 hrh1 hrh2 hrb1 hrb2 hqm hj0 hnb hk1 hk2
      go_wp2
      refine AnyC.startB (fun w' => Below wo.heap.size wo w') (by kernel_rfl) rfl ?_
      intro w1 hb1 hs1
      have B_w1 := Lib.hid hb1
      clear hb1 hs1
      apply AnyC.take (i := 0) rfl (by kernel_rfl) rfl
      · intro w' hC K hK
        go_wp2
        exact hK
      · rfl
      apply AnyC.take (i := 1) rfl (by kernel_rfl) rfl
      · intro w' hC K hK
        go_wp2
        exact hK
      · rfl
      apply AnyC.take (i := 2) rfl (by kernel_rfl) rfl
      · intro w' hC K hK
        go_wp2
        exact hK
      · rfl
      apply AnyC.take (i := 3) rfl (by kernel_rfl) rfl
      · intro w' hC K hK
        refine wpList_load_arr rfl _ _ rfl b1 (o1 + k * 5) rfl px _ (RX.out w' hC) Tryd.underlying52 rfl (by rw [ZX.out]; kernel_rfl) ?_
        go_wp2
        exact hK
      · rfl
      apply AnyC.take (i := 4) rfl (by kernel_rfl) rfl
      · intro w' hC K hK
        go_wp2
        exact hK
      · rfl
      apply AnyC.take (i := 5) rfl (by kernel_rfl) rfl
      · intro w' hC K hK
        go_wp2
        exact hK
      · rfl
      apply AnyC.take (i := 6) rfl (by kernel_rfl) rfl
      · intro w' hC K hK
        go_wp2
        exact hK
      · rfl
      apply AnyC.take (i := 7) rfl (by kernel_rfl) rfl
      · intro w' hC K hK
        refine wpList_load_arr rfl _ _ rfl b2 (o2 + k * 5) rfl py _ (RY.out w' hC) Tryd.underlying52 rfl (by rw [ZY.out]; kernel_rfl) ?_
        go_wp2
        exact hK
      · rfl
      apply AnyC.two (i := 8) (j := 9) rfl rfl (by kernel_rfl) B_w1.out
      · skip
        go_wp2
        refine ⟨rfl, ?_⟩
        obtain ⟨gx, hgx⟩ : ∃ g, g = w1.heap.size := ⟨_, rfl⟩
        obtain ⟨w2, hW⟩ : ∃ z, z = w1.alloc (.cells #[.string ⟨#[]⟩, .string ⟨#[]⟩, .slice none 0 0, .slice none 0 0, .bool false] 52) := ⟨_, rfl⟩
        have Rx_w2 : Hid (w2.heap[gx]? = some (.cells #[.string ⟨#[]⟩, .string ⟨#[]⟩, .slice none 0 0, .slice none 0 0, .bool false] 52 (0, 0))) := by show _ = _; rw [hW, hgx]; exact heap_alloc_new _ _
        have B_w2 : Hid (Below wo.heap.size wo w2) := by show Below _ _ _; rw [hW]; exact B_w1.out.alloc B_w1.out.size _
        have Gx : Hid (wo.heap.size ≤ gx) := by show _ ≤ _; rw [hgx]; exact B_w1.out.size
        rw [← hW, ← hgx]
        clear hW hgx
        apply AnyC.solo (i := 9) rfl (by kernel_rfl) B_w2.out
        go_wp2
        refine ⟨rfl, ?_⟩
        obtain ⟨gy, hgy⟩ : ∃ g, g = w2.heap.size := ⟨_, rfl⟩
        obtain ⟨w3, hW⟩ : ∃ z, z = w2.alloc (.cells #[.string ⟨#[]⟩, .string ⟨#[]⟩, .slice none 0 0, .slice none 0 0, .bool false] 52) := ⟨_, rfl⟩
        have Ry_w3 : Hid (w3.heap[gy]? = some (.cells #[.string ⟨#[]⟩, .string ⟨#[]⟩, .slice none 0 0, .slice none 0 0, .bool false] 52 (0, 0))) := by show _ = _; rw [hW, hgy]; exact heap_alloc_new _ _
        have B_w3 : Hid (Below wo.heap.size wo w3) := by show Below _ _ _; rw [hW]; exact B_w2.out.alloc B_w2.out.size _
        have Gy : Hid (wo.heap.size ≤ gy) := by show _ ≤ _; rw [hgy]; exact B_w2.out.size
        have Rx_w3 : Hid (w3.heap[gx]? = some (.cells #[.string ⟨#[]⟩, .string ⟨#[]⟩, .slice none 0 0, .slice none 0 0, .bool false] 52 (0, 0))) := by show _ = _; rw [hW]; exact heap_below Rx_w2.out ((Below.refl _ _).alloc (Nat.le_refl _) _)
        have NE : Hid (gy ≠ gx) := by show _ ≠ _; rw [hgy]; have h_ := lt_of_heap Rx_w2.out; omega
        rw [← hW, ← hgy]
        clear hW hgy
        apply AnyC.solo (i := 10) rfl (by kernel_rfl) B_w3.out
        refine wpList_store_row rfl _ _ _ rfl gx px rfl rfl 52 _ (by with_reducible exact Rx_w3.out) (by rw [ZX.out]; kernel_rfl) (by rw [ZX.out]; rfl) OX.out ?_
        go_wp2
        refine ⟨rfl, ?_⟩
        obtain ⟨w4, hW⟩ : ∃ z, z = w3.setRow gx px := ⟨_, rfl⟩
        have Rx_w4 : Hid (w4.heap[gx]? = some (.cells px 52 (0, 0))) := by show _ = _; rw [hW]; exact heap_setRow Rx_w3.out
        have B_w4 : Hid (Below wo.heap.size wo w4) := by show Below _ _ _; rw [hW]; exact B_w3.out.trans ((Frm.setRow w3 gx px).1.below B_w3.out.size (fun p hp => by rw [List.mem_singleton.1 hp]; exact Gx.out))
        have Ry_w4 : Hid (w4.heap[gy]? = some (.cells #[.string ⟨#[]⟩, .string ⟨#[]⟩, .slice none 0 0, .slice none 0 0, .bool false] 52 (0, 0))) := by show _ = _; rw [hW]; exact ((Frm.setRow w3 gx px).1.block gy (lt_of_heap Ry_w3.out) (by have h_ := NE.out; simp only [List.mem_singleton]; omega)).trans Ry_w3.out
        rw [← hW]
        clear hW
        apply AnyC.solo (i := 11) rfl (by kernel_rfl) B_w4.out
        refine wpList_store_row rfl _ _ _ rfl gy py rfl rfl 52 _ (by with_reducible exact Ry_w4.out) (by rw [ZY.out]; kernel_rfl) (by rw [ZY.out]; rfl) OY.out ?_
        go_wp2
        refine ⟨rfl, ?_⟩
        obtain ⟨w5, hW⟩ : ∃ z, z = w4.setRow gy py := ⟨_, rfl⟩
        have Ry_w5 : Hid (w5.heap[gy]? = some (.cells py 52 (0, 0))) := by show _ = _; rw [hW]; exact heap_setRow Ry_w4.out
        have B_w5 : Hid (Below wo.heap.size wo w5) := by show Below _ _ _; rw [hW]; exact B_w4.out.trans ((Frm.setRow w4 gy py).1.below B_w4.out.size (fun p hp => by rw [List.mem_singleton.1 hp]; exact Gy.out))
        have Rx_w5 : Hid (w5.heap[gx]? = some (.cells px 52 (0, 0))) := by show _ = _; rw [hW]; exact ((Frm.setRow w4 gy py).1.block gx (lt_of_heap Rx_w4.out) (by have h_ := NE.out; simp only [List.mem_singleton]; omega)).trans Rx_w4.out
        rw [← hW]
        clear hW
        refine AnyC.done B_w5.out (by kernel_rfl) ?_
        have CX : ∀ i, w5.cell? ⟨gx, i, none⟩ = px[i]? := fun i => cell_of_row w5 gx i _ _ _ Rx_w5.out
        have CY : ∀ i, w5.cell? ⟨gy, i, none⟩ = py[i]? := fun i => cell_of_row w5 gy i _ _ _ Ry_w5.out
        have x0 : w5.cell? ⟨gx, 0, none⟩ = some (.string ms) := by rw [CX, HPX.out]; rfl
        have x1 : w5.cell? ⟨gx, 1, none⟩ = some (.string ts) := by rw [CX, HPX.out]; rfl
        have x2 : w5.cell? ⟨gx, 2, none⟩ = some (.slice Ah1 j0 ch1) := by rw [CX, HPX.out]; rfl
        have x3 : w5.cell? ⟨gx, 3, none⟩ = some (.slice Ab1 nb cb1) := by rw [CX, HPX.out]; rfl
        have x4 : w5.cell? ⟨gx, 4, none⟩ = some (.bool qc) := by rw [CX, HPX.out]; rfl
        have y0 : w5.cell? ⟨gy, 0, none⟩ = some (.string ms) := by rw [CY, HPY.out]; rfl
        have y1 : w5.cell? ⟨gy, 1, none⟩ = some (.string ts) := by rw [CY, HPY.out]; rfl
        have y2 : w5.cell? ⟨gy, 2, none⟩ = some (.slice Ah2 j0 ch2) := by rw [CY, HPY.out]; rfl
        have y3 : w5.cell? ⟨gy, 3, none⟩ = some (.slice Ab2 nb cb2) := by rw [CY, HPY.out]; rfl
        have y4 : w5.cell? ⟨gy, 4, none⟩ = some (.bool qc) := by rw [CY, HPY.out]; rfl
        have X2 := Lib.hid x2
        have Y2 := Lib.hid y2
        have LX := Lib.hid (lt_of_heap Rx_w5.out)
        have LY := Lib.hid (lt_of_heap Ry_w5.out)
        have sx := SX.out w5 B_w5.out
        have sy := SY.out w5 B_w5.out
        clear CX CY
        go_wp2
        clear x0 x1 x2 x3 x4 y0 y1 y2 y3 y4 sx sy
        go_loopw [67] (fun i wx => ∃ j : Nat, j ≤ j0 ∧ i = .int .i64 (j : Int) ∧ Hid (Below w5.heap.size w5 wx)) (fun i _ => j0 - (intOf i).toNat)
        case atStart => exact ⟨0, Nat.zero_le _, rfl, Below.refl _ _⟩
        case round =>
          obtain ⟨j, hj, rfl, hO2⟩ := hrel
          by_cases hlt2 : j < j0
          · have hlt2' : (j : Int) < (j0 : Int) := by omega
            have hj0' : (0 : Int) ≤ (j : Int) := by omega
            have hjl : j < q.hs.length := by rw [← HJ0.out]; exact hlt2
            obtain ⟨d1, e1, hD1, _, hd1⟩ := hdr_at HRH1.out HJ0.out.symm (by omega)
            obtain ⟨d2, e2, hD2, _, hd2⟩ := hdr_at HRH2.out HJ0.out.symm (by omega)
            subst hD1 hD2
            obtain ⟨hc, hhc⟩ : ∃ hc : Array Value, hc = #[.string ⟨q.hs[j].1.toArray⟩, .string ⟨q.hs[j].2.toArray⟩] := ⟨_, rfl⟩
            have KZ : Hid (hc.size = 2) := by show _ = _; rw [hhc]; rfl
            have KE : Hid (∀ w', (Op.equalIn 10000 54 (.agg hc) (.agg hc)).run Tryd.prog w' = .ok true w') := by intro w'; rw [hhc]; exact eq_hdr _ _ w'
            have D1 : Hid (∀ w', Below w5.heap.size w5 w' → w'.rangeAt d1 (e1 + j * 2) hc.toList) := by
              intro w' hw'
              rw [hhc]
              exact hd1 w' (hO.out.trans ((B_w5.out.trans (hw'.mono B_w5.out.size)).mono hO.out.size)) j hjl
            have D2 : Hid (∀ w', Below w5.heap.size w5 w' → w'.rangeAt d2 (e2 + j * 2) hc.toList) := by
              intro w' hw'
              rw [hhc]
              exact hd2 w' (hO.out.trans ((B_w5.out.trans (hw'.mono B_w5.out.size)).mono hO.out.size)) j hjl
            have HK2 := Lib.hid hlt2
            clear hhc hd1 hd2 hjl
            go_wp2
            refine AnyC.startB (fun w' => Below w5.heap.size w5 w') (by kernel_rfl) rfl ?_
            intro wz hbz hsz
            have BZ := Lib.hid (hO2.out.trans (hbz.mono hO2.out.size))
            clear hbz hsz
            apply AnyC.take (i := 0) rfl (by kernel_rfl) rfl
            · intro w' hC K hK
              go_wp2
              exact hK
            · rfl
            apply AnyC.take (i := 1) rfl (by kernel_rfl) rfl
            · intro w' hC K hK
              have cc := (hC.cell (p := ⟨gx, 2, none⟩) LX.out).trans X2.out
              go_wp2
              exact hK
            · rfl
            apply AnyC.take (i := 2) rfl (by kernel_rfl) rfl
            · intro w' hC K hK
              go_wp2
              exact hK
            · rfl
            apply AnyC.take (i := 3) rfl (by kernel_rfl) rfl
            · intro w' hC K hK
              go_wp2
              exact hK
            · rfl
            apply AnyC.take (i := 4) rfl (by kernel_rfl) rfl
            · intro w' hC K hK
              refine wpList_load_arr rfl _ _ rfl d1 (e1 + j * 2) rfl hc _ (D1.out w' hC) Tryd.underlying54 rfl (by rw [KZ.out]; kernel_rfl) ?_
              go_wp2
              exact hK
            · rfl
            apply AnyC.take (i := 5) rfl (by kernel_rfl) rfl
            · intro w' hC K hK
              go_wp2
              exact hK
            · rfl
            apply AnyC.take (i := 6) rfl (by kernel_rfl) rfl
            · intro w' hC K hK
              have cc := (hC.cell (p := ⟨gy, 2, none⟩) LY.out).trans Y2.out
              go_wp2
              exact hK
            · rfl
            apply AnyC.take (i := 7) rfl (by kernel_rfl) rfl
            · intro w' hC K hK
              go_wp2
              exact hK
            · rfl
            apply AnyC.take (i := 8) rfl (by kernel_rfl) rfl
            · intro w' hC K hK
              go_wp2
              exact hK
            · rfl
            apply AnyC.take (i := 9) rfl (by kernel_rfl) rfl
            · intro w' hC K hK
              refine wpList_load_arr rfl _ _ rfl d2 (e2 + j * 2) rfl hc _ (D2.out w' hC) Tryd.underlying54 rfl (by rw [KZ.out]; kernel_rfl) ?_
              go_wp2
              exact hK
            · rfl
            apply AnyC.take (i := 10) rfl (by kernel_rfl) rfl
            · intro w' hC K hK
              refine wpList_same false rfl 54 54 _ _ rfl hc rfl rfl (by kernel_rfl) (KE.out w') ?_
              go_wp2
              exact hK
            · rfl
            refine AnyC.done BZ.out (by kernel_rfl) ?_
            go_wp2
            go_roundw
            case rel => exact ⟨j + 1, HK2.out, by go_num, BZ.out⟩
            case measure => simp [intOf]; omega
          · obtain rfl : j = j0 := by omega
            go_wp2
            go_roundw
            case rel => exact ⟨k + 1, HK.out, by go_num, hO.out.trans ((B_w5.out.trans (hO2.out.mono B_w5.out.size)).mono hO.out.size)⟩
            case measure => simp [intOf]; omega
      · skip
        go_wp2
        refine ⟨rfl, ?_⟩
        obtain ⟨gy, hgy⟩ : ∃ g, g = w1.heap.size := ⟨_, rfl⟩
        obtain ⟨w6, hW⟩ : ∃ z, z = w1.alloc (.cells #[.string ⟨#[]⟩, .string ⟨#[]⟩, .slice none 0 0, .slice none 0 0, .bool false] 52) := ⟨_, rfl⟩
        have Ry_w6 : Hid (w6.heap[gy]? = some (.cells #[.string ⟨#[]⟩, .string ⟨#[]⟩, .slice none 0 0, .slice none 0 0, .bool false] 52 (0, 0))) := by show _ = _; rw [hW, hgy]; exact heap_alloc_new _ _
        have B_w6 : Hid (Below wo.heap.size wo w6) := by show Below _ _ _; rw [hW]; exact B_w1.out.alloc B_w1.out.size _
        have Gy : Hid (wo.heap.size ≤ gy) := by show _ ≤ _; rw [hgy]; exact B_w1.out.size
        rw [← hW, ← hgy]
        clear hW hgy
        apply AnyC.solo (i := 8) rfl (by kernel_rfl) B_w6.out
        go_wp2
        refine ⟨rfl, ?_⟩
        obtain ⟨gx, hgx⟩ : ∃ g, g = w6.heap.size := ⟨_, rfl⟩
        obtain ⟨w7, hW⟩ : ∃ z, z = w6.alloc (.cells #[.string ⟨#[]⟩, .string ⟨#[]⟩, .slice none 0 0, .slice none 0 0, .bool false] 52) := ⟨_, rfl⟩
        have Rx_w7 : Hid (w7.heap[gx]? = some (.cells #[.string ⟨#[]⟩, .string ⟨#[]⟩, .slice none 0 0, .slice none 0 0, .bool false] 52 (0, 0))) := by show _ = _; rw [hW, hgx]; exact heap_alloc_new _ _
        have B_w7 : Hid (Below wo.heap.size wo w7) := by show Below _ _ _; rw [hW]; exact B_w6.out.alloc B_w6.out.size _
        have Gx : Hid (wo.heap.size ≤ gx) := by show _ ≤ _; rw [hgx]; exact B_w6.out.size
        have Ry_w7 : Hid (w7.heap[gy]? = some (.cells #[.string ⟨#[]⟩, .string ⟨#[]⟩, .slice none 0 0, .slice none 0 0, .bool false] 52 (0, 0))) := by show _ = _; rw [hW]; exact heap_below Ry_w6.out ((Below.refl _ _).alloc (Nat.le_refl _) _)
        have NE : Hid (gx ≠ gy) := by show _ ≠ _; rw [hgx]; have h_ := lt_of_heap Ry_w6.out; omega
        rw [← hW, ← hgx]
        clear hW hgx
        apply AnyC.solo (i := 10) rfl (by kernel_rfl) B_w7.out
        refine wpList_store_row rfl _ _ _ rfl gx px rfl rfl 52 _ (by with_reducible exact Rx_w7.out) (by rw [ZX.out]; kernel_rfl) (by rw [ZX.out]; rfl) OX.out ?_
        go_wp2
        refine ⟨rfl, ?_⟩
        obtain ⟨w8, hW⟩ : ∃ z, z = w7.setRow gx px := ⟨_, rfl⟩
        have Rx_w8 : Hid (w8.heap[gx]? = some (.cells px 52 (0, 0))) := by show _ = _; rw [hW]; exact heap_setRow Rx_w7.out
        have B_w8 : Hid (Below wo.heap.size wo w8) := by show Below _ _ _; rw [hW]; exact B_w7.out.trans ((Frm.setRow w7 gx px).1.below B_w7.out.size (fun p hp => by rw [List.mem_singleton.1 hp]; exact Gx.out))
        have Ry_w8 : Hid (w8.heap[gy]? = some (.cells #[.string ⟨#[]⟩, .string ⟨#[]⟩, .slice none 0 0, .slice none 0 0, .bool false] 52 (0, 0))) := by show _ = _; rw [hW]; exact ((Frm.setRow w7 gx px).1.block gy (lt_of_heap Ry_w7.out) (by have h_ := NE.out; simp only [List.mem_singleton]; omega)).trans Ry_w7.out
        rw [← hW]
        clear hW
        apply AnyC.solo (i := 11) rfl (by kernel_rfl) B_w8.out
        refine wpList_store_row rfl _ _ _ rfl gy py rfl rfl 52 _ (by with_reducible exact Ry_w8.out) (by rw [ZY.out]; kernel_rfl) (by rw [ZY.out]; rfl) OY.out ?_
        go_wp2
        refine ⟨rfl, ?_⟩
        obtain ⟨w9, hW⟩ : ∃ z, z = w8.setRow gy py := ⟨_, rfl⟩
        have Ry_w9 : Hid (w9.heap[gy]? = some (.cells py 52 (0, 0))) := by show _ = _; rw [hW]; exact heap_setRow Ry_w8.out
        have B_w9 : Hid (Below wo.heap.size wo w9) := by show Below _ _ _; rw [hW]; exact B_w8.out.trans ((Frm.setRow w8 gy py).1.below B_w8.out.size (fun p hp => by rw [List.mem_singleton.1 hp]; exact Gy.out))
        have Rx_w9 : Hid (w9.heap[gx]? = some (.cells px 52 (0, 0))) := by show _ = _; rw [hW]; exact ((Frm.setRow w8 gy py).1.block gx (lt_of_heap Rx_w8.out) (by have h_ := NE.out; simp only [List.mem_singleton]; omega)).trans Rx_w8.out
        rw [← hW]
        clear hW
        refine AnyC.done B_w9.out (by kernel_rfl) ?_
        have CX : ∀ i, w9.cell? ⟨gx, i, none⟩ = px[i]? := fun i => cell_of_row w9 gx i _ _ _ Rx_w9.out
        have CY : ∀ i, w9.cell? ⟨gy, i, none⟩ = py[i]? := fun i => cell_of_row w9 gy i _ _ _ Ry_w9.out
        have x0 : w9.cell? ⟨gx, 0, none⟩ = some (.string ms) := by rw [CX, HPX.out]; rfl
        have x1 : w9.cell? ⟨gx, 1, none⟩ = some (.string ts) := by rw [CX, HPX.out]; rfl
        have x2 : w9.cell? ⟨gx, 2, none⟩ = some (.slice Ah1 j0 ch1) := by rw [CX, HPX.out]; rfl
        have x3 : w9.cell? ⟨gx, 3, none⟩ = some (.slice Ab1 nb cb1) := by rw [CX, HPX.out]; rfl
        have x4 : w9.cell? ⟨gx, 4, none⟩ = some (.bool qc) := by rw [CX, HPX.out]; rfl
        have y0 : w9.cell? ⟨gy, 0, none⟩ = some (.string ms) := by rw [CY, HPY.out]; rfl
        have y1 : w9.cell? ⟨gy, 1, none⟩ = some (.string ts) := by rw [CY, HPY.out]; rfl
        have y2 : w9.cell? ⟨gy, 2, none⟩ = some (.slice Ah2 j0 ch2) := by rw [CY, HPY.out]; rfl
        have y3 : w9.cell? ⟨gy, 3, none⟩ = some (.slice Ab2 nb cb2) := by rw [CY, HPY.out]; rfl
        have y4 : w9.cell? ⟨gy, 4, none⟩ = some (.bool qc) := by rw [CY, HPY.out]; rfl
        have X2 := Lib.hid x2
        have Y2 := Lib.hid y2
        have LX := Lib.hid (lt_of_heap Rx_w9.out)
        have LY := Lib.hid (lt_of_heap Ry_w9.out)
        have sx := SX.out w9 B_w9.out
        have sy := SY.out w9 B_w9.out
        clear CX CY
        go_wp2
        clear x0 x1 x2 x3 x4 y0 y1 y2 y3 y4 sx sy
        go_loopw [67] (fun i wx => ∃ j : Nat, j ≤ j0 ∧ i = .int .i64 (j : Int) ∧ Hid (Below w9.heap.size w9 wx)) (fun i _ => j0 - (intOf i).toNat)
        case atStart => exact ⟨0, Nat.zero_le _, rfl, Below.refl _ _⟩
        case round =>
          obtain ⟨j, hj, rfl, hO2⟩ := hrel
          by_cases hlt2 : j < j0
          · have hlt2' : (j : Int) < (j0 : Int) := by omega
            have hj0' : (0 : Int) ≤ (j : Int) := by omega
            have hjl : j < q.hs.length := by rw [← HJ0.out]; exact hlt2
            obtain ⟨d1, e1, hD1, _, hd1⟩ := hdr_at HRH1.out HJ0.out.symm (by omega)
            obtain ⟨d2, e2, hD2, _, hd2⟩ := hdr_at HRH2.out HJ0.out.symm (by omega)
            subst hD1 hD2
            obtain ⟨hc, hhc⟩ : ∃ hc : Array Value, hc = #[.string ⟨q.hs[j].1.toArray⟩, .string ⟨q.hs[j].2.toArray⟩] := ⟨_, rfl⟩
            have KZ : Hid (hc.size = 2) := by show _ = _; rw [hhc]; rfl
            have KE : Hid (∀ w', (Op.equalIn 10000 54 (.agg hc) (.agg hc)).run Tryd.prog w' = .ok true w') := by intro w'; rw [hhc]; exact eq_hdr _ _ w'
            have D1 : Hid (∀ w', Below w9.heap.size w9 w' → w'.rangeAt d1 (e1 + j * 2) hc.toList) := by
              intro w' hw'
              rw [hhc]
              exact hd1 w' (hO.out.trans ((B_w9.out.trans (hw'.mono B_w9.out.size)).mono hO.out.size)) j hjl
            have D2 : Hid (∀ w', Below w9.heap.size w9 w' → w'.rangeAt d2 (e2 + j * 2) hc.toList) := by
              intro w' hw'
              rw [hhc]
              exact hd2 w' (hO.out.trans ((B_w9.out.trans (hw'.mono B_w9.out.size)).mono hO.out.size)) j hjl
            have HK2 := Lib.hid hlt2
            clear hhc hd1 hd2 hjl
            go_wp2
            refine AnyC.startB (fun w' => Below w9.heap.size w9 w') (by kernel_rfl) rfl ?_
            intro wz hbz hsz
            have BZ := Lib.hid (hO2.out.trans (hbz.mono hO2.out.size))
            clear hbz hsz
            apply AnyC.take (i := 0) rfl (by kernel_rfl) rfl
            · intro w' hC K hK
              go_wp2
              exact hK
            · rfl
            apply AnyC.take (i := 1) rfl (by kernel_rfl) rfl
            · intro w' hC K hK
              have cc := (hC.cell (p := ⟨gx, 2, none⟩) LX.out).trans X2.out
              go_wp2
              exact hK
            · rfl
            apply AnyC.take (i := 2) rfl (by kernel_rfl) rfl
            · intro w' hC K hK
              go_wp2
              exact hK
            · rfl
            apply AnyC.take (i := 3) rfl (by kernel_rfl) rfl
            · intro w' hC K hK
              go_wp2
              exact hK
            · rfl
            apply AnyC.take (i := 4) rfl (by kernel_rfl) rfl
            · intro w' hC K hK
              refine wpList_load_arr rfl _ _ rfl d1 (e1 + j * 2) rfl hc _ (D1.out w' hC) Tryd.underlying54 rfl (by rw [KZ.out]; kernel_rfl) ?_
              go_wp2
              exact hK
            · rfl
            apply AnyC.take (i := 5) rfl (by kernel_rfl) rfl
            · intro w' hC K hK
              go_wp2
              exact hK
            · rfl
            apply AnyC.take (i := 6) rfl (by kernel_rfl) rfl
            · intro w' hC K hK
              have cc := (hC.cell (p := ⟨gy, 2, none⟩) LY.out).trans Y2.out
              go_wp2
              exact hK
            · rfl
            apply AnyC.take (i := 7) rfl (by kernel_rfl) rfl
            · intro w' hC K hK
              go_wp2
              exact hK
            · rfl
            apply AnyC.take (i := 8) rfl (by kernel_rfl) rfl
            · intro w' hC K hK
              go_wp2
              exact hK
            · rfl
            apply AnyC.take (i := 9) rfl (by kernel_rfl) rfl
            · intro w' hC K hK
              refine wpList_load_arr rfl _ _ rfl d2 (e2 + j * 2) rfl hc _ (D2.out w' hC) Tryd.underlying54 rfl (by rw [KZ.out]; kernel_rfl) ?_
              go_wp2
              exact hK
            · rfl
            apply AnyC.take (i := 10) rfl (by kernel_rfl) rfl
            · intro w' hC K hK
              refine wpList_same false rfl 54 54 _ _ rfl hc rfl rfl (by kernel_rfl) (KE.out w') ?_
              go_wp2
              exact hK
            · rfl
            refine AnyC.done BZ.out (by kernel_rfl) ?_
            go_wp2
            go_roundw
            case rel => exact ⟨j + 1, HK2.out, by go_num, BZ.out⟩
            case measure => simp [intOf]; omega
          · obtain rfl : j = j0 := by omega
            go_wp2
            go_roundw
            case rel => exact ⟨k + 1, HK.out, by go_num, hO.out.trans ((B_w9.out.trans (hO2.out.mono B_w9.out.size)).mono hO.out.size)⟩
            case measure => simp [intOf]; omega
    · obtain rfl : k = n := by omega
      go_wp2
      go_ret
      exact ⟨rfl, hO.out⟩
end Go.Proofs.YtjichadkonlfpaaDoor
