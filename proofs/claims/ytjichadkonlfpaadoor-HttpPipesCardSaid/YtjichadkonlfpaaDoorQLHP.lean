/- The texts LHPipes of this work, merged by wip/merge.py. No conditions. -/
import Derived.Test.YtjichadkonlfpaaDoorQKD
import Derived.Test.YtjichadkonlfpaaDoorQHA
namespace Go.Proofs.YtjichadkonlfpaaDoor
open Go.RowKit
set_option maxRecDepth 100000 in
set_option maxHeartbeats 4000000 in
theorem pipes_cut (A : Option Addr) (c : Nat) (ms0 : List MadeR) (w : World) (hc : ms0.length ≤ c) (hl : ms0.length ≤ 140737488351232) (hat0 : ∀ i x, ms0[i]? = some x → MadeAt w w.heap.size A i x) (hbig : 8 < ms0.length) :
    Calls Tryd.prog 3 #[.slice A ms0.length c] w fun e w' => e = .returned (.bool true) ∧ Below w.heap.size w w' := by
  obtain ⟨N, hN⟩ : ∃ N, N = ms0.length := ⟨_, rfl⟩
  obtain ⟨ms, hms⟩ : ∃ ms, ms = ms0.take 8 := ⟨_, rfl⟩
  have hlen : ms.length = 8 := by rw [hms, List.length_take]; omega
  have hat : ∀ i x, ms[i]? = some x → MadeAt w w.heap.size A i x := fun i x hx => hat0 i x (by
    rw [hms, List.getElem?_take] at hx
    split at hx
    · exact hx
    · cases hx)
  rw [← hN]
  have gx0 : (8 : Int) < (N : Int) := by omega
  have gc : (8 : Int) ≤ (c : Int) := by omega
  have gN : (N : Int) ≤ 140737488351232 := by omega
  clear hat0 hms hN hbig hl hc
  have MA : Hid (∀ w', Below w.heap.size w w' → ∀ i x, ms[i]? = some x → MadeAt w' w.heap.size A i x) := fun w' hb i x hx => (hat i x hx).below hb
  have MP : Hid (∀ x ∈ ms, x.1.path < 65536) := fun x hx => by
    obtain ⟨i, hi⟩ := List.mem_iff_getElem?.1 hx
    exact (hat i x hi).2.1
  have LEN : Hid (ms.length = 8) := hlen
  clear hat hlen
  go_enter Tryd.func3, Tryd.ntmps3
  go_wp2_with (first
    | (go_at_call 7; go_must (refine (awake_any w).mono ?_; rintro e w1 ⟨rfl, hb⟩; have HB1 := Lib.hid hb; clear hb)))
  go_loopw [3, 18] (fun b i wr => ∃ k : Nat, k ≤ 8 ∧ i = .int .i64 (k : Int) ∧ Hid (Below w.heap.size w wr ∧ Own8 wr w.heap.size b (wires (ms.take k)))) (fun _ i _ => 8 - (intOf i).toNat)
  case atStart => exact ⟨0, Nat.zero_le _, rfl, HB1.out, by rw [List.take_zero]; exact own8_nil _ _⟩
  case round =>
    obtain ⟨k, hk, rfl, hO⟩ := hrel
    by_cases hlt : k < 8
    · have hlt' : (k : Int) < 8 := by omega
      have hk0 : (0 : Int) ≤ (k : Int) := by omega
      have hkL : k < ms.length := by rw [LEN.out]; exact hlt
      obtain ⟨x, hxk⟩ : ∃ x, x = ms[k] := ⟨_, rfl⟩
      have hx? : ms[k]? = some x := by rw [List.getElem?_eq_getElem hkL, hxk]
      obtain ⟨⟨bx, ox, hA, hbx, hrow⟩, hp, hcap, hbl, hrd⟩ := MA.out wr hO.out.1 k x hx?
      subst hA
      have TK : Hid (wires (ms.take (k + 1)) = wires (ms.take k) ++ wireP x.1) := by show _ = _; rw [hxk]; exact wires_take ms k hkL
      obtain ⟨m, Ax, cx⟩ := x
      simp only at hrow hp hcap hbl hrd
      obtain ⟨px, hpx⟩ : ∃ px : Array Value, px = #[.int .u16 (m.path : Int), .slice Ax m.body.length cx, .int .u8 (m.ch.toNat : Int), .bool m.chd, .bool m.post] := ⟨_, rfl⟩
      have RX : Hid (wr.rangeAt bx (ox + k * 5) px.toList) := by show World.rangeAt _ _ _ _; rw [hpx]; exact hrow
      have ZX : Hid (px.size = 5) := by show _ = _; rw [hpx]; rfl
      have HPX : Hid (Value.agg px = m.val Ax cx) := by show _ = _; rw [hpx]; rfl
      have HP := Lib.hid hp
      have HCAP := Lib.hid hcap
      have HBL := Lib.hid hbl
      have HRD := Lib.hid (hrd.bel (Below.refl _ wr) hO.out.1.size)
      have WL := wireP_len m hp
      obtain ⟨WM, hWM⟩ : ∃ WM, WM = wireP m := ⟨_, rfl⟩
      rw [← hWM] at WL TK
      have HWM := Lib.hid hWM
      have HWL := Lib.hid WL
      have HOB := Lib.hid hO.out.1
      have HOW := Lib.hid hO.out.2
      have LB : Hid ((wires (ms.take k)).length ≤ 320000) := by
        show _ ≤ _
        have h1 := wires_len (ms.take k) (fun y hy => MP.out y (List.mem_of_mem_take hy))
        rw [List.length_take] at h1
        omega
      obtain ⟨BL, hBL⟩ : ∃ BL, BL = wires (ms.take k) := ⟨_, rfl⟩
      rw [← hBL] at HOW LB TK
      obtain ⟨A1, c1, hb1, _, _⟩ := own8_form HOW.out
      subst hb1
      have HK := Lib.hid hlt
      clear hpx hrow hp hcap hbl hrd hWM WL hO hxk hx? hBL
      go_wp2_with (first
        | (refine wpList_load_arr rfl _ _ rfl bx (ox + k * 5) rfl px _ (by with_reducible exact RX.out) Tryd.underlying27 rfl (by rw [ZX.out]; kernel_rfl) ?_)
        | (go_at_call 8; go_must (rw [HPX.out]; refine (wire_any m Ax cx wr HP.out HRD.out HCAP.out HBL.out).mono ?_; rintro e w2 ⟨A2, c2, rfl, hr2, hb2⟩; rw [← HWM.out] at hr2 ⊢; have R2 := Lib.hid hr2; have B2 := Lib.hid hb2; clear hr2 hb2))
        | (at_builtin; go_must (refine app8 (l := BL) (news := WM) (base := w.heap.size) rfl rfl rfl rfl (own8_below HOW.out B2.out) R2.out (by have h1 := LB.out; have h2 := HWL.out; omega) (Nat.le_trans HOB.out.size B2.out.size) ?_; intro v3 w3 ho hg hx; rw [← TK.out] at ho; have O3 := Lib.hid ho; have B3 := Lib.hid (Below.grown (HOB.out.trans (B2.out.mono HOB.out.size)) hg (Nat.le_trans HOB.out.size B2.out.size) (fun j hj => (own8_lt HOW.out j hj).1)); clear ho hg hx)))
      go_roundw
      case rel => exact ⟨k + 1, HK.out, by go_num, B3.out, O3.out⟩
      case measure => simp [intOf]; omega
    · obtain rfl : k = 8 := by omega
      have HOB := Lib.hid hO.out.1
      have hOW := hO.out.2
      rw [show ms.take 8 = ms from List.take_of_length_le (by rw [LEN.out]; exact Nat.le_refl _)] at hOW
      obtain ⟨rs, hF, hrl, hrs⟩ := feed_mades ms MP.out
      have LB := wires_len ms MP.out
      rw [LEN.out] at LB hrl
      obtain ⟨WS, hWS⟩ : ∃ WS, WS = wires ms := ⟨_, rfl⟩
      rw [← hWS] at hOW hF LB
      obtain ⟨NW, hNW⟩ : ∃ NW, NW = WS.length := ⟨_, rfl⟩
      obtain ⟨A1, c1, hb1, _, hr1⟩ := own8_form' hOW hNW.symm
      subst hb1
      have HLT := Lib.hid (own8_lt hOW)
      have HF : Hid (F (zeroP false) WS = (zeroP false, rs, 0)) := by show _ = _; rw [← hF]; rfl
      have HR1 := Lib.hid hr1
      have HLB : Hid (WS.length ≤ 1000000) := by show _ ≤ _; omega
      have HRL := Lib.hid hrl
      have HRS := Lib.hid hrs
      clear hO hOW hF hrl hrs LB hWS hNW hr1 hlt hk
      go_wp2_with (first
        | (go_at_call 9; go_must (refine (new_any wr).mono ?_; rintro e w3 ⟨g, rfl, P3, hb, hg⟩; have HP3 := Lib.hid P3; have HB3 := Lib.hid hb; have HG3 := Lib.hid hg; clear P3 hb hg))
        | (go_at_call 10; go_must (
            refine (feedF_any w3 g (zeroP false) _ _ _ WS A1 NW c1 HP3.out okF_zero (HR1.out.bel HB3.out HB3.out.size) (fun h0 b off hA hm => by have h1 := reads_block_lt HR1.out h0 hA; have h2 : b = g := (by simpa [PL, Value.ownBlock] using hm); have h3 := HG3.out; omega) HLB.out).mono ?_
            rintro e w4 ⟨gv, L, W4, H4, B4, rfl, hL, FF⟩
            rw [HF.out] at hL FF ⊢
            replace hL : L.map (·.1) = rs := hL
            have RG := FF.held.rr
            rw [hL] at RG
            have B34 := FF.below (K := w.heap.size) (Nat.le_trans HOB.out.size HG3.out) (Nat.le_trans HOB.out.size HB3.out.size)
            have HB4 := Lib.hid ((HOB.out.trans (HB3.out.mono HOB.out.size)).trans B34)
            obtain ⟨L1, hL1, ⟨A4, c4, hgv, hr4⟩, hx4⟩ := RG
            rw [HRL.out] at hgv hr4
            subst hgv
            have HL1 := Lib.hid hL1
            have HR4 := Lib.hid hr4
            have HX4 := Lib.hid hx4
            have LN1 : Hid (L1.length = 8) := (by show _ = _; rw [← HRL.out, ← hL1]; simp)
            clear hL FF B34 hL1 hr4 hx4)))
      go_loopw [46] (fun i wr => ∃ k : Nat, k ≤ 8 ∧ i = .int .i64 (k : Int) ∧ Hid (Below w4.heap.size w4 wr)) (fun i _ => 8 - (intOf i).toNat)
      case atStart => exact ⟨0, Nat.zero_le _, rfl, Below.refl _ _⟩
      case round =>
        obtain ⟨wo, rfl⟩ : ∃ wo, wo = wr := ⟨_, rfl⟩
        obtain ⟨k, hk, rfl, hO⟩ := hrel
        have HOO := hO
        by_cases hlt : k < 8
        · have hlt' : (k : Int) < 8 := by omega
          have hk0 : (0 : Int) ≤ (k : Int) := by omega
          have hkL : k < ms.length := by rw [LEN.out]; exact hlt
          have hk1 : k < L1.length := by rw [LN1.out]; exact hlt
          obtain ⟨bq, oq, hA1, _, hat1⟩ := rr_at HR4.out LN1.out (by omega)
          subst hA1
          obtain ⟨hs, hrk⟩ := HRS.out k hkL
          obtain ⟨x, hxk⟩ : ∃ x, x = ms[k] := ⟨_, rfl⟩
          have hx? : ms[k]? = some x := by rw [List.getElem?_eq_getElem hkL, hxk]
          rw [← hxk] at hrk
          have hwo : Below w.heap.size w wo := HB4.out.trans (hO.out.mono HB4.out.size)
          have MAk := fun w' (hw' : Below wo.heap.size wo w') => MA.out w' (hwo.trans (hw'.mono hwo.size)) k x hx?
          obtain ⟨⟨bx, ox, hA, hbx, _⟩, hp, hcap, hbl, _⟩ := MAk wo (Below.refl _ _)
          subst hA
          obtain ⟨m, Ax, cx⟩ := x
          simp only at hp hcap hbl hrk MAk
          obtain ⟨y, hyk⟩ : ∃ y, y = L1[k] := ⟨_, rfl⟩
          have hyq : y.1 = ⟨methL m.post, m.target, hs, m.bd, false⟩ := by
            have e1 : (L1.map (·.1))[k]? = some y.1 := by rw [List.getElem?_map, List.getElem?_eq_getElem hk1, ← hyk]; rfl
            rw [HL1.out, hrk] at e1
            exact (Option.some.inj e1).symm
          obtain ⟨⟨Ah, ch, hyh, _⟩, ⟨Ab, cb, hyb, hrb⟩⟩ := HX4.out y (by rw [hyk]; exact List.getElem_mem hk1)
          obtain ⟨q, Hv, Bv⟩ := y
          simp only at hyh hyb hrb hyq
          subst hyq hyh hyb
          simp only at hyk hrb
          obtain ⟨nb, hnb⟩ : ∃ nb, nb = m.bd.length := ⟨_, rfl⟩
          obtain ⟨bl, hbl0⟩ : ∃ bl, bl = m.body.length := ⟨_, rfl⟩
          obtain ⟨dv, hdv⟩ : ∃ dv : ByteArray, dv = ⟨(Lib.decDigits m.path).toArray⟩ := ⟨_, rfl⟩
          have ds20 : dv.size ≤ 20 := by
            have h1 : dv.size = (Lib.decDigits m.path).length := by rw [hdv]; simp [ByteArray.size]
            have := dec_len 4 m.path (by omega)
            omega
          have t1 : ¬ (9223372036854775807 < 1 + dv.size) := by omega
          obtain ⟨tv, hT⟩ : ∃ tv : ByteArray, (⟨#[47]⟩ : ByteArray) ++ dv = tv := ⟨_, rfl⟩
          have hTV : tv = ⟨m.target.toArray⟩ := by
            rw [← hT, hdv]
            unfold MadeV.target
            rw [← bapp]
          obtain ⟨bs, hbs⟩ : ∃ z : ByteArray, z = ⟨m.bd.toArray⟩ := ⟨_, rfl⟩
          have HBS := Lib.hid hbs
          have HNB := Lib.hid hnb
          have HBL := Lib.hid hbl0
          have RQ : Hid (∀ w', Below wo.heap.size wo w' → w'.rangeAt bq (oq + k * 5) [.string ⟨(methL m.post).toArray⟩, .string tv, .slice Ah hs.length ch, .slice Ab nb cb, .bool false]) := by
            intro w' hw'
            have h1 := hat1 w' (hO.out.trans (hw'.mono hO.out.size)) k hk1
            rw [← hyk] at h1
            rw [hTV, hnb]
            exact h1
          have RM : Hid (∀ w', Below wo.heap.size wo w' → w'.rangeAt bx (ox + k * 5) [.int .u16 (m.path : Int), .slice Ax bl cx, .int .u8 (m.ch.toNat : Int), .bool m.chd, .bool m.post]) := by
            intro w' hw'
            obtain ⟨⟨b9, o9, hA9, _, h1⟩, _⟩ := MAk w' hw'
            cases hA9
            rw [hbl0]
            exact h1
          have RB : Hid (∀ w', Below wo.heap.size wo w' → Reads w' w.heap.size 1 Ax bl (bvs m.body)) := by
            intro w' hw'
            rw [hbl0]
            exact (MAk w' hw').2.2.2.2
          have SX : Hid (∀ w', Below wo.heap.size wo w' → (convert 24 9 (.slice Ab nb cb)).run Tryd.prog w' = .ok (.string bs) w') := by
            intro w' hw'
            rw [hbs, hnb]
            exact run_str8 (hrb.below (hO.out.trans (hw'.mono hO.out.size))) cb
          rw [← hbl0] at hcap hbl
          have HCAP := Lib.hid hcap
          obtain ⟨pth, hpth⟩ : ∃ pth, pth = m.path := ⟨_, rfl⟩
          rw [← hpth] at hp RM hdv
          have HPTH := Lib.hid hp
          have HDV := Lib.hid hdv
          have p0 : (0 : Int) ≤ (pth : Int) := by omega
          have p1 : (pth : Int) ≤ 65535 := by omega
          have bI : (bl : Int) ≤ 140737488351232 := by omega
          have cBody : wo.cell? ⟨bx, ox + k * 5 + 1, none⟩ = some (.slice Ax bl cx) := RM.out wo (Below.refl _ _) 1 _ rfl
          have HK := Lib.hid hlt
          clear hat1 hrk hxk hx? MAk hyk hrb hnb hbl0 hdv hTV hbs hpth hwo hO hk1 hkL hp hcap hbl
          rcases Nat.lt_or_ge 4096 bl with hbb | hbb
          · cases hpost : m.post
            · skip
              have gb : (4096 : Int) < (bl : Int) := by omega
              have gbc : (4096 : Int) ≤ (cx : Int) := by have := HCAP.out; omega
              have CC : Hid (∀ w', Below wo.heap.size wo w' → w'.cell? ⟨bq, oq + k * 5, none⟩ = some (.string ⟨#[71, 69, 84]⟩) ∧ w'.cell? ⟨bq, oq + k * 5 + 1, none⟩ = some (.string tv) ∧ w'.cell? ⟨bq, oq + k * 5 + 3, none⟩ = some (.slice Ab nb cb) ∧ w'.cell? ⟨bq, oq + k * 5 + 4, none⟩ = some (.bool false) ∧ w'.cell? ⟨bx, ox + k * 5, none⟩ = some (.int .u16 (pth : Int)) ∧ w'.cell? ⟨bx, ox + k * 5 + 4, none⟩ = some (.bool false)) := by
                intro w' hw'
                have h1 := RQ.out w' hw'
                have h2 := RM.out w' hw'
                rw [hpost] at h1 h2
                exact ⟨h1 0 _ rfl, h1 1 _ rfl, h1 3 _ rfl, h1 4 _ rfl, h2 0 _ rfl, h2 4 _ rfl⟩
              have SY : Hid (∀ w', Below wo.heap.size wo w' → (convert 24 9 (.slice Ax 4096 cx)).run Tryd.prog w' = .ok (.string bs) w') := by
                intro w' hw'
                rw [HBS.out]
                have h1 := RB.out w' hw'
                have h2 := h1.take (k := 4096) (by omega)
                rw [Nat.mul_one, show (bvs m.body).take 4096 = bvs m.bd from by simp [bvs, MadeV.bd]] at h2
                exact run_str8 h2 cx
              clear hpost hbb
              go_wp2
              refine AnyC.startB (fun w' => Below wo.heap.size wo w') (by kernel_rfl) rfl ?_
              intro w5 hb5 hs5
              have HB5 := Lib.hid hb5
              clear hb5 hs5
              apply AnyC.take (i := 0) rfl (by kernel_rfl) rfl
              · intro w' hC K hK
                go_wp2
                exact hK
              · rfl
              apply AnyC.take (i := 1) rfl (by kernel_rfl) rfl
              · intro w' hC K hK
                go_wp2
                exact hK
              · rfl
              apply AnyC.take (i := 2) rfl (by kernel_rfl) rfl
              · intro w' hC K hK
                go_wp2
                exact hK
              · rfl
              apply AnyC.take (i := 3) rfl (by kernel_rfl) rfl
              · intro w' hC K hK
                go_wp2
                exact hK
              · rfl
              apply AnyC.take (i := 4) rfl (by kernel_rfl) rfl
              · intro w' hC K hK
                have cc := (CC.out w' hC).2.1
                go_wp2
                exact hK
              · rfl
              apply AnyC.take (i := 5) rfl (by kernel_rfl) rfl
              · intro w' hC K hK
                go_wp2
                exact hK
              · rfl
              apply AnyC.take (i := 6) rfl (by kernel_rfl) rfl
              · intro w' hC K hK
                go_wp2
                exact hK
              · rfl
              apply AnyC.take (i := 7) rfl (by kernel_rfl) rfl
              · intro w' hC K hK
                go_wp2
                exact hK
              · rfl
              apply AnyC.take (i := 8) rfl (by kernel_rfl) rfl
              · intro w' hC K hK
                go_wp2
                exact hK
              · rfl
              apply AnyC.take (i := 9) rfl (by kernel_rfl) rfl
              · intro w' hC K hK
                have cc := (CC.out w' hC).2.2.2.2.1
                go_wp2
                exact hK
              · rfl
              apply AnyC.take (i := 10) rfl (by kernel_rfl) rfl
              · intro w' hC K hK
                go_wp2
                exact hK
              · rfl
              apply AnyC.solo (i := 11) rfl (by kernel_rfl) HB5.out
              go_wp2_with (go_at_call 11; go_must (refine (decimal_any pth (by have := HPTH.out; omega) w5).mono ?_; rintro e w6 ⟨rfl, hb⟩; rw [← HDV.out]; have HB6 := Lib.hid (HB5.out.trans (hb.mono HB5.out.size)); clear hb))
              refine ⟨rfl, ?_⟩
              apply AnyC.take (i := 12) rfl (by kernel_rfl) rfl
              · intro w' hC K hK
                go_wp2
                exact hK
              · rfl
              apply AnyC.take (i := 13) rfl (by kernel_rfl) rfl
              · intro w' hC K hK
                go_wp2
                exact hK
              · rfl
              apply AnyC.take (i := 14) rfl (by kernel_rfl) rfl
              · intro w' hC K hK
                go_wp2
                exact hK
              · rfl
              apply AnyC.take (i := 15) rfl (by kernel_rfl) rfl
              · intro w' hC K hK
                go_wp2
                exact hK
              · rfl
              apply AnyC.take (i := 16) rfl (by kernel_rfl) rfl
              · intro w' hC K hK
                go_wp2
                exact hK
              · rfl
              apply AnyC.take (i := 17) rfl (by kernel_rfl) rfl
              · intro w' hC K hK
                go_wp2
                exact hK
              · rfl
              apply AnyC.take (i := 18) rfl (by kernel_rfl) rfl
              · intro w' hC K hK
                go_wp2
                exact hK
              · rfl
              apply AnyC.take (i := 19) rfl (by kernel_rfl) rfl
              · intro w' hC K hK
                have cc := (CC.out w' hC).1
                go_wp2
                exact hK
              · rfl
              apply AnyC.take (i := 20) rfl (by kernel_rfl) rfl
              · intro w' hC K hK
                go_wp2
                exact hK
              · rfl
              apply AnyC.take (i := 21) rfl (by kernel_rfl) rfl
              · intro w' hC K hK
                go_wp2
                exact hK
              · rfl
              apply AnyC.take (i := 22) rfl (by kernel_rfl) rfl
              · intro w' hC K hK
                go_wp2
                exact hK
              · rfl
              apply AnyC.take (i := 23) rfl (by kernel_rfl) rfl
              · intro w' hC K hK
                go_wp2
                exact hK
              · rfl
              apply AnyC.take (i := 24) rfl (by kernel_rfl) rfl
              · intro w' hC K hK
                go_wp2
                exact hK
              · rfl
              apply AnyC.take (i := 25) rfl (by kernel_rfl) rfl
              · intro w' hC K hK
                have cc := (CC.out w' hC).2.2.2.2.2
                go_wp2
                exact hK
              · rfl
              apply AnyC.take (i := 26) rfl (by kernel_rfl) rfl
              · intro w' hC K hK
                go_wp2
                exact hK
              · rfl
              apply AnyC.take (i := 27) rfl (by kernel_rfl) rfl
              · intro w' hC K hK
                go_wp2
                exact hK
              · rfl
              apply AnyC.take (i := 28) rfl (by kernel_rfl) rfl
              · intro w' hC K hK
                go_wp2
                exact hK
              · rfl
              apply AnyC.take (i := 29) rfl (by kernel_rfl) rfl
              · intro w' hC K hK
                go_wp2
                exact hK
              · rfl
              apply AnyC.take (i := 30) rfl (by kernel_rfl) rfl
              · intro w' hC K hK
                go_wp2
                exact hK
              · rfl
              apply AnyC.take (i := 31) rfl (by kernel_rfl) rfl
              · intro w' hC K hK
                go_wp2
                exact hK
              · rfl
              apply AnyC.take (i := 32) rfl (by kernel_rfl) rfl
              · intro w' hC K hK
                go_wp2
                exact hK
              · rfl
              apply AnyC.take (i := 33) rfl (by kernel_rfl) rfl
              · intro w' hC K hK
                have cc := (CC.out w' hC).2.2.1
                go_wp2
                exact hK
              · rfl
              apply AnyC.take (i := 34) rfl (by kernel_rfl) rfl
              · intro w' hC K hK
                have cc := SX.out w' hC
                go_wp2
                exact hK
              · rfl
              apply AnyC.take (i := 35) rfl (by kernel_rfl) rfl
              · intro w' hC K hK
                go_wp2
                exact hK
              · rfl
              apply AnyC.take (i := 36) rfl (by kernel_rfl) rfl
              · intro w' hC K hK
                have cc := SY.out w' hC
                go_wp2
                exact hK
              · rfl
              apply AnyC.take (i := 37) rfl (by kernel_rfl) rfl
              · intro w' hC K hK
                go_wp2
                exact hK
              · rfl
              apply AnyC.take (i := 38) rfl (by kernel_rfl) rfl
              · intro w' hC K hK
                go_wp2
                exact hK
              · rfl
              apply AnyC.take (i := 39) rfl (by kernel_rfl) rfl
              · intro w' hC K hK
                go_wp2
                exact hK
              · rfl
              apply AnyC.take (i := 40) rfl (by kernel_rfl) rfl
              · intro w' hC K hK
                go_wp2
                exact hK
              · rfl
              apply AnyC.take (i := 41) rfl (by kernel_rfl) rfl
              · intro w' hC K hK
                go_wp2
                exact hK
              · rfl
              apply AnyC.take (i := 42) rfl (by kernel_rfl) rfl
              · intro w' hC K hK
                go_wp2
                exact hK
              · rfl
              apply AnyC.take (i := 43) rfl (by kernel_rfl) rfl
              · intro w' hC K hK
                go_wp2
                exact hK
              · rfl
              apply AnyC.take (i := 44) rfl (by kernel_rfl) rfl
              · intro w' hC K hK
                have cc := (CC.out w' hC).2.2.2.1
                go_wp2
                exact hK
              · rfl
              apply AnyC.take (i := 45) rfl (by kernel_rfl) rfl
              · intro w' hC K hK
                go_wp2
                exact hK
              · rfl
              refine AnyC.done HB6.out (by kernel_rfl) ?_
              go_wp2
              go_roundw
              case rel => exact ⟨k + 1, HK.out, by go_num, HOO.out.trans (HB6.out.mono HOO.out.size)⟩
              case measure => simp [intOf]; omega
            · skip
              have gb : (4096 : Int) < (bl : Int) := by omega
              have gbc : (4096 : Int) ≤ (cx : Int) := by have := HCAP.out; omega
              have CC : Hid (∀ w', Below wo.heap.size wo w' → w'.cell? ⟨bq, oq + k * 5, none⟩ = some (.string ⟨#[80, 79, 83, 84]⟩) ∧ w'.cell? ⟨bq, oq + k * 5 + 1, none⟩ = some (.string tv) ∧ w'.cell? ⟨bq, oq + k * 5 + 3, none⟩ = some (.slice Ab nb cb) ∧ w'.cell? ⟨bq, oq + k * 5 + 4, none⟩ = some (.bool false) ∧ w'.cell? ⟨bx, ox + k * 5, none⟩ = some (.int .u16 (pth : Int)) ∧ w'.cell? ⟨bx, ox + k * 5 + 4, none⟩ = some (.bool true)) := by
                intro w' hw'
                have h1 := RQ.out w' hw'
                have h2 := RM.out w' hw'
                rw [hpost] at h1 h2
                exact ⟨h1 0 _ rfl, h1 1 _ rfl, h1 3 _ rfl, h1 4 _ rfl, h2 0 _ rfl, h2 4 _ rfl⟩
              have SY : Hid (∀ w', Below wo.heap.size wo w' → (convert 24 9 (.slice Ax 4096 cx)).run Tryd.prog w' = .ok (.string bs) w') := by
                intro w' hw'
                rw [HBS.out]
                have h1 := RB.out w' hw'
                have h2 := h1.take (k := 4096) (by omega)
                rw [Nat.mul_one, show (bvs m.body).take 4096 = bvs m.bd from by simp [bvs, MadeV.bd]] at h2
                exact run_str8 h2 cx
              clear hpost hbb
              go_wp2
              refine AnyC.startB (fun w' => Below wo.heap.size wo w') (by kernel_rfl) rfl ?_
              intro w5 hb5 hs5
              have HB5 := Lib.hid hb5
              clear hb5 hs5
              apply AnyC.take (i := 0) rfl (by kernel_rfl) rfl
              · intro w' hC K hK
                go_wp2
                exact hK
              · rfl
              apply AnyC.take (i := 1) rfl (by kernel_rfl) rfl
              · intro w' hC K hK
                go_wp2
                exact hK
              · rfl
              apply AnyC.take (i := 2) rfl (by kernel_rfl) rfl
              · intro w' hC K hK
                go_wp2
                exact hK
              · rfl
              apply AnyC.take (i := 3) rfl (by kernel_rfl) rfl
              · intro w' hC K hK
                go_wp2
                exact hK
              · rfl
              apply AnyC.take (i := 4) rfl (by kernel_rfl) rfl
              · intro w' hC K hK
                have cc := (CC.out w' hC).2.1
                go_wp2
                exact hK
              · rfl
              apply AnyC.take (i := 5) rfl (by kernel_rfl) rfl
              · intro w' hC K hK
                go_wp2
                exact hK
              · rfl
              apply AnyC.take (i := 6) rfl (by kernel_rfl) rfl
              · intro w' hC K hK
                go_wp2
                exact hK
              · rfl
              apply AnyC.take (i := 7) rfl (by kernel_rfl) rfl
              · intro w' hC K hK
                go_wp2
                exact hK
              · rfl
              apply AnyC.take (i := 8) rfl (by kernel_rfl) rfl
              · intro w' hC K hK
                go_wp2
                exact hK
              · rfl
              apply AnyC.take (i := 9) rfl (by kernel_rfl) rfl
              · intro w' hC K hK
                have cc := (CC.out w' hC).2.2.2.2.1
                go_wp2
                exact hK
              · rfl
              apply AnyC.take (i := 10) rfl (by kernel_rfl) rfl
              · intro w' hC K hK
                go_wp2
                exact hK
              · rfl
              apply AnyC.solo (i := 11) rfl (by kernel_rfl) HB5.out
              go_wp2_with (go_at_call 11; go_must (refine (decimal_any pth (by have := HPTH.out; omega) w5).mono ?_; rintro e w6 ⟨rfl, hb⟩; rw [← HDV.out]; have HB6 := Lib.hid (HB5.out.trans (hb.mono HB5.out.size)); clear hb))
              refine ⟨rfl, ?_⟩
              apply AnyC.take (i := 12) rfl (by kernel_rfl) rfl
              · intro w' hC K hK
                go_wp2
                exact hK
              · rfl
              apply AnyC.take (i := 13) rfl (by kernel_rfl) rfl
              · intro w' hC K hK
                go_wp2
                exact hK
              · rfl
              apply AnyC.take (i := 14) rfl (by kernel_rfl) rfl
              · intro w' hC K hK
                go_wp2
                exact hK
              · rfl
              apply AnyC.take (i := 15) rfl (by kernel_rfl) rfl
              · intro w' hC K hK
                go_wp2
                exact hK
              · rfl
              apply AnyC.take (i := 16) rfl (by kernel_rfl) rfl
              · intro w' hC K hK
                go_wp2
                exact hK
              · rfl
              apply AnyC.take (i := 17) rfl (by kernel_rfl) rfl
              · intro w' hC K hK
                go_wp2
                exact hK
              · rfl
              apply AnyC.take (i := 18) rfl (by kernel_rfl) rfl
              · intro w' hC K hK
                go_wp2
                exact hK
              · rfl
              apply AnyC.take (i := 19) rfl (by kernel_rfl) rfl
              · intro w' hC K hK
                have cc := (CC.out w' hC).1
                go_wp2
                exact hK
              · rfl
              apply AnyC.take (i := 20) rfl (by kernel_rfl) rfl
              · intro w' hC K hK
                go_wp2
                exact hK
              · rfl
              apply AnyC.take (i := 21) rfl (by kernel_rfl) rfl
              · intro w' hC K hK
                go_wp2
                exact hK
              · rfl
              apply AnyC.take (i := 22) rfl (by kernel_rfl) rfl
              · intro w' hC K hK
                go_wp2
                exact hK
              · rfl
              apply AnyC.take (i := 23) rfl (by kernel_rfl) rfl
              · intro w' hC K hK
                go_wp2
                exact hK
              · rfl
              apply AnyC.take (i := 24) rfl (by kernel_rfl) rfl
              · intro w' hC K hK
                go_wp2
                exact hK
              · rfl
              apply AnyC.take (i := 25) rfl (by kernel_rfl) rfl
              · intro w' hC K hK
                have cc := (CC.out w' hC).2.2.2.2.2
                go_wp2
                exact hK
              · rfl
              apply AnyC.take (i := 26) rfl (by kernel_rfl) rfl
              · intro w' hC K hK
                go_wp2
                exact hK
              · rfl
              apply AnyC.take (i := 27) rfl (by kernel_rfl) rfl
              · intro w' hC K hK
                go_wp2
                exact hK
              · rfl
              apply AnyC.take (i := 28) rfl (by kernel_rfl) rfl
              · intro w' hC K hK
                go_wp2
                exact hK
              · rfl
              apply AnyC.take (i := 29) rfl (by kernel_rfl) rfl
              · intro w' hC K hK
                go_wp2
                exact hK
              · rfl
              apply AnyC.take (i := 30) rfl (by kernel_rfl) rfl
              · intro w' hC K hK
                go_wp2
                exact hK
              · rfl
              apply AnyC.take (i := 31) rfl (by kernel_rfl) rfl
              · intro w' hC K hK
                go_wp2
                exact hK
              · rfl
              apply AnyC.take (i := 32) rfl (by kernel_rfl) rfl
              · intro w' hC K hK
                go_wp2
                exact hK
              · rfl
              apply AnyC.take (i := 33) rfl (by kernel_rfl) rfl
              · intro w' hC K hK
                have cc := (CC.out w' hC).2.2.1
                go_wp2
                exact hK
              · rfl
              apply AnyC.take (i := 34) rfl (by kernel_rfl) rfl
              · intro w' hC K hK
                have cc := SX.out w' hC
                go_wp2
                exact hK
              · rfl
              apply AnyC.take (i := 35) rfl (by kernel_rfl) rfl
              · intro w' hC K hK
                go_wp2
                exact hK
              · rfl
              apply AnyC.take (i := 36) rfl (by kernel_rfl) rfl
              · intro w' hC K hK
                have cc := SY.out w' hC
                go_wp2
                exact hK
              · rfl
              apply AnyC.take (i := 37) rfl (by kernel_rfl) rfl
              · intro w' hC K hK
                go_wp2
                exact hK
              · rfl
              apply AnyC.take (i := 38) rfl (by kernel_rfl) rfl
              · intro w' hC K hK
                go_wp2
                exact hK
              · rfl
              apply AnyC.take (i := 39) rfl (by kernel_rfl) rfl
              · intro w' hC K hK
                go_wp2
                exact hK
              · rfl
              apply AnyC.take (i := 40) rfl (by kernel_rfl) rfl
              · intro w' hC K hK
                go_wp2
                exact hK
              · rfl
              apply AnyC.take (i := 41) rfl (by kernel_rfl) rfl
              · intro w' hC K hK
                go_wp2
                exact hK
              · rfl
              apply AnyC.take (i := 42) rfl (by kernel_rfl) rfl
              · intro w' hC K hK
                go_wp2
                exact hK
              · rfl
              apply AnyC.take (i := 43) rfl (by kernel_rfl) rfl
              · intro w' hC K hK
                go_wp2
                exact hK
              · rfl
              apply AnyC.take (i := 44) rfl (by kernel_rfl) rfl
              · intro w' hC K hK
                have cc := (CC.out w' hC).2.2.2.1
                go_wp2
                exact hK
              · rfl
              apply AnyC.take (i := 45) rfl (by kernel_rfl) rfl
              · intro w' hC K hK
                go_wp2
                exact hK
              · rfl
              refine AnyC.done HB6.out (by kernel_rfl) ?_
              go_wp2
              go_roundw
              case rel => exact ⟨k + 1, HK.out, by go_num, HOO.out.trans (HB6.out.mono HOO.out.size)⟩
              case measure => simp [intOf]; omega
          · cases hpost : m.post
            · skip
              have gb : decide ((4096 : Int) < (bl : Int)) = false := by simp; omega
              have CC : Hid (∀ w', Below wo.heap.size wo w' → w'.cell? ⟨bq, oq + k * 5, none⟩ = some (.string ⟨#[71, 69, 84]⟩) ∧ w'.cell? ⟨bq, oq + k * 5 + 1, none⟩ = some (.string tv) ∧ w'.cell? ⟨bq, oq + k * 5 + 3, none⟩ = some (.slice Ab nb cb) ∧ w'.cell? ⟨bq, oq + k * 5 + 4, none⟩ = some (.bool false) ∧ w'.cell? ⟨bx, ox + k * 5, none⟩ = some (.int .u16 (pth : Int)) ∧ w'.cell? ⟨bx, ox + k * 5 + 4, none⟩ = some (.bool false)) := by
                intro w' hw'
                have h1 := RQ.out w' hw'
                have h2 := RM.out w' hw'
                rw [hpost] at h1 h2
                exact ⟨h1 0 _ rfl, h1 1 _ rfl, h1 3 _ rfl, h1 4 _ rfl, h2 0 _ rfl, h2 4 _ rfl⟩
              have SY : Hid (∀ w', Below wo.heap.size wo w' → (convert 24 9 (.slice Ax bl cx)).run Tryd.prog w' = .ok (.string bs) w') := by
                intro w' hw'
                rw [HBS.out]
                have h1 := RB.out w' hw'
                rw [show m.bd = m.body from List.take_of_length_le (by rw [← HBL.out]; omega)]
                exact run_str8 h1 cx
              clear hpost hbb
              go_wp2
              refine AnyC.startB (fun w' => Below wo.heap.size wo w') (by kernel_rfl) rfl ?_
              intro w5 hb5 hs5
              have HB5 := Lib.hid hb5
              clear hb5 hs5
              apply AnyC.take (i := 0) rfl (by kernel_rfl) rfl
              · intro w' hC K hK
                go_wp2
                exact hK
              · rfl
              apply AnyC.take (i := 1) rfl (by kernel_rfl) rfl
              · intro w' hC K hK
                go_wp2
                exact hK
              · rfl
              apply AnyC.take (i := 2) rfl (by kernel_rfl) rfl
              · intro w' hC K hK
                go_wp2
                exact hK
              · rfl
              apply AnyC.take (i := 3) rfl (by kernel_rfl) rfl
              · intro w' hC K hK
                go_wp2
                exact hK
              · rfl
              apply AnyC.take (i := 4) rfl (by kernel_rfl) rfl
              · intro w' hC K hK
                have cc := (CC.out w' hC).2.1
                go_wp2
                exact hK
              · rfl
              apply AnyC.take (i := 5) rfl (by kernel_rfl) rfl
              · intro w' hC K hK
                go_wp2
                exact hK
              · rfl
              apply AnyC.take (i := 6) rfl (by kernel_rfl) rfl
              · intro w' hC K hK
                go_wp2
                exact hK
              · rfl
              apply AnyC.take (i := 7) rfl (by kernel_rfl) rfl
              · intro w' hC K hK
                go_wp2
                exact hK
              · rfl
              apply AnyC.take (i := 8) rfl (by kernel_rfl) rfl
              · intro w' hC K hK
                go_wp2
                exact hK
              · rfl
              apply AnyC.take (i := 9) rfl (by kernel_rfl) rfl
              · intro w' hC K hK
                have cc := (CC.out w' hC).2.2.2.2.1
                go_wp2
                exact hK
              · rfl
              apply AnyC.take (i := 10) rfl (by kernel_rfl) rfl
              · intro w' hC K hK
                go_wp2
                exact hK
              · rfl
              apply AnyC.solo (i := 11) rfl (by kernel_rfl) HB5.out
              go_wp2_with (go_at_call 11; go_must (refine (decimal_any pth (by have := HPTH.out; omega) w5).mono ?_; rintro e w6 ⟨rfl, hb⟩; rw [← HDV.out]; have HB6 := Lib.hid (HB5.out.trans (hb.mono HB5.out.size)); clear hb))
              refine ⟨rfl, ?_⟩
              apply AnyC.take (i := 12) rfl (by kernel_rfl) rfl
              · intro w' hC K hK
                go_wp2
                exact hK
              · rfl
              apply AnyC.take (i := 13) rfl (by kernel_rfl) rfl
              · intro w' hC K hK
                go_wp2
                exact hK
              · rfl
              apply AnyC.take (i := 14) rfl (by kernel_rfl) rfl
              · intro w' hC K hK
                go_wp2
                exact hK
              · rfl
              apply AnyC.take (i := 15) rfl (by kernel_rfl) rfl
              · intro w' hC K hK
                go_wp2
                exact hK
              · rfl
              apply AnyC.take (i := 16) rfl (by kernel_rfl) rfl
              · intro w' hC K hK
                go_wp2
                exact hK
              · rfl
              apply AnyC.take (i := 17) rfl (by kernel_rfl) rfl
              · intro w' hC K hK
                go_wp2
                exact hK
              · rfl
              apply AnyC.take (i := 18) rfl (by kernel_rfl) rfl
              · intro w' hC K hK
                go_wp2
                exact hK
              · rfl
              apply AnyC.take (i := 19) rfl (by kernel_rfl) rfl
              · intro w' hC K hK
                have cc := (CC.out w' hC).1
                go_wp2
                exact hK
              · rfl
              apply AnyC.take (i := 20) rfl (by kernel_rfl) rfl
              · intro w' hC K hK
                go_wp2
                exact hK
              · rfl
              apply AnyC.take (i := 21) rfl (by kernel_rfl) rfl
              · intro w' hC K hK
                go_wp2
                exact hK
              · rfl
              apply AnyC.take (i := 22) rfl (by kernel_rfl) rfl
              · intro w' hC K hK
                go_wp2
                exact hK
              · rfl
              apply AnyC.take (i := 23) rfl (by kernel_rfl) rfl
              · intro w' hC K hK
                go_wp2
                exact hK
              · rfl
              apply AnyC.take (i := 24) rfl (by kernel_rfl) rfl
              · intro w' hC K hK
                go_wp2
                exact hK
              · rfl
              apply AnyC.take (i := 25) rfl (by kernel_rfl) rfl
              · intro w' hC K hK
                have cc := (CC.out w' hC).2.2.2.2.2
                go_wp2
                exact hK
              · rfl
              apply AnyC.take (i := 26) rfl (by kernel_rfl) rfl
              · intro w' hC K hK
                go_wp2
                exact hK
              · rfl
              apply AnyC.take (i := 27) rfl (by kernel_rfl) rfl
              · intro w' hC K hK
                go_wp2
                exact hK
              · rfl
              apply AnyC.take (i := 28) rfl (by kernel_rfl) rfl
              · intro w' hC K hK
                go_wp2
                exact hK
              · rfl
              apply AnyC.take (i := 29) rfl (by kernel_rfl) rfl
              · intro w' hC K hK
                go_wp2
                exact hK
              · rfl
              apply AnyC.take (i := 30) rfl (by kernel_rfl) rfl
              · intro w' hC K hK
                go_wp2
                exact hK
              · rfl
              apply AnyC.take (i := 31) rfl (by kernel_rfl) rfl
              · intro w' hC K hK
                go_wp2
                exact hK
              · rfl
              apply AnyC.take (i := 32) rfl (by kernel_rfl) rfl
              · intro w' hC K hK
                go_wp2
                exact hK
              · rfl
              apply AnyC.take (i := 33) rfl (by kernel_rfl) rfl
              · intro w' hC K hK
                have cc := (CC.out w' hC).2.2.1
                go_wp2
                exact hK
              · rfl
              apply AnyC.take (i := 34) rfl (by kernel_rfl) rfl
              · intro w' hC K hK
                have cc := SX.out w' hC
                go_wp2
                exact hK
              · rfl
              apply AnyC.take (i := 35) rfl (by kernel_rfl) rfl
              · intro w' hC K hK
                go_wp2
                exact hK
              · rfl
              apply AnyC.take (i := 36) rfl (by kernel_rfl) rfl
              · intro w' hC K hK
                have cc := SY.out w' hC
                go_wp2
                exact hK
              · rfl
              apply AnyC.take (i := 37) rfl (by kernel_rfl) rfl
              · intro w' hC K hK
                go_wp2
                exact hK
              · rfl
              apply AnyC.take (i := 38) rfl (by kernel_rfl) rfl
              · intro w' hC K hK
                go_wp2
                exact hK
              · rfl
              apply AnyC.take (i := 39) rfl (by kernel_rfl) rfl
              · intro w' hC K hK
                go_wp2
                exact hK
              · rfl
              apply AnyC.take (i := 40) rfl (by kernel_rfl) rfl
              · intro w' hC K hK
                go_wp2
                exact hK
              · rfl
              apply AnyC.take (i := 41) rfl (by kernel_rfl) rfl
              · intro w' hC K hK
                go_wp2
                exact hK
              · rfl
              apply AnyC.take (i := 42) rfl (by kernel_rfl) rfl
              · intro w' hC K hK
                go_wp2
                exact hK
              · rfl
              apply AnyC.take (i := 43) rfl (by kernel_rfl) rfl
              · intro w' hC K hK
                go_wp2
                exact hK
              · rfl
              apply AnyC.take (i := 44) rfl (by kernel_rfl) rfl
              · intro w' hC K hK
                have cc := (CC.out w' hC).2.2.2.1
                go_wp2
                exact hK
              · rfl
              apply AnyC.take (i := 45) rfl (by kernel_rfl) rfl
              · intro w' hC K hK
                go_wp2
                exact hK
              · rfl
              refine AnyC.done HB6.out (by kernel_rfl) ?_
              go_wp2
              go_roundw
              case rel => exact ⟨k + 1, HK.out, by go_num, HOO.out.trans (HB6.out.mono HOO.out.size)⟩
              case measure => simp [intOf]; omega
            · skip
              have gb : decide ((4096 : Int) < (bl : Int)) = false := by simp; omega
              have CC : Hid (∀ w', Below wo.heap.size wo w' → w'.cell? ⟨bq, oq + k * 5, none⟩ = some (.string ⟨#[80, 79, 83, 84]⟩) ∧ w'.cell? ⟨bq, oq + k * 5 + 1, none⟩ = some (.string tv) ∧ w'.cell? ⟨bq, oq + k * 5 + 3, none⟩ = some (.slice Ab nb cb) ∧ w'.cell? ⟨bq, oq + k * 5 + 4, none⟩ = some (.bool false) ∧ w'.cell? ⟨bx, ox + k * 5, none⟩ = some (.int .u16 (pth : Int)) ∧ w'.cell? ⟨bx, ox + k * 5 + 4, none⟩ = some (.bool true)) := by
                intro w' hw'
                have h1 := RQ.out w' hw'
                have h2 := RM.out w' hw'
                rw [hpost] at h1 h2
                exact ⟨h1 0 _ rfl, h1 1 _ rfl, h1 3 _ rfl, h1 4 _ rfl, h2 0 _ rfl, h2 4 _ rfl⟩
              have SY : Hid (∀ w', Below wo.heap.size wo w' → (convert 24 9 (.slice Ax bl cx)).run Tryd.prog w' = .ok (.string bs) w') := by
                intro w' hw'
                rw [HBS.out]
                have h1 := RB.out w' hw'
                rw [show m.bd = m.body from List.take_of_length_le (by rw [← HBL.out]; omega)]
                exact run_str8 h1 cx
              clear hpost hbb
              go_wp2
              refine AnyC.startB (fun w' => Below wo.heap.size wo w') (by kernel_rfl) rfl ?_
              intro w5 hb5 hs5
              have HB5 := Lib.hid hb5
              clear hb5 hs5
              apply AnyC.take (i := 0) rfl (by kernel_rfl) rfl
              · intro w' hC K hK
                go_wp2
                exact hK
              · rfl
              apply AnyC.take (i := 1) rfl (by kernel_rfl) rfl
              · intro w' hC K hK
                go_wp2
                exact hK
              · rfl
              apply AnyC.take (i := 2) rfl (by kernel_rfl) rfl
              · intro w' hC K hK
                go_wp2
                exact hK
              · rfl
              apply AnyC.take (i := 3) rfl (by kernel_rfl) rfl
              · intro w' hC K hK
                go_wp2
                exact hK
              · rfl
              apply AnyC.take (i := 4) rfl (by kernel_rfl) rfl
              · intro w' hC K hK
                have cc := (CC.out w' hC).2.1
                go_wp2
                exact hK
              · rfl
              apply AnyC.take (i := 5) rfl (by kernel_rfl) rfl
              · intro w' hC K hK
                go_wp2
                exact hK
              · rfl
              apply AnyC.take (i := 6) rfl (by kernel_rfl) rfl
              · intro w' hC K hK
                go_wp2
                exact hK
              · rfl
              apply AnyC.take (i := 7) rfl (by kernel_rfl) rfl
              · intro w' hC K hK
                go_wp2
                exact hK
              · rfl
              apply AnyC.take (i := 8) rfl (by kernel_rfl) rfl
              · intro w' hC K hK
                go_wp2
                exact hK
              · rfl
              apply AnyC.take (i := 9) rfl (by kernel_rfl) rfl
              · intro w' hC K hK
                have cc := (CC.out w' hC).2.2.2.2.1
                go_wp2
                exact hK
              · rfl
              apply AnyC.take (i := 10) rfl (by kernel_rfl) rfl
              · intro w' hC K hK
                go_wp2
                exact hK
              · rfl
              apply AnyC.solo (i := 11) rfl (by kernel_rfl) HB5.out
              go_wp2_with (go_at_call 11; go_must (refine (decimal_any pth (by have := HPTH.out; omega) w5).mono ?_; rintro e w6 ⟨rfl, hb⟩; rw [← HDV.out]; have HB6 := Lib.hid (HB5.out.trans (hb.mono HB5.out.size)); clear hb))
              refine ⟨rfl, ?_⟩
              apply AnyC.take (i := 12) rfl (by kernel_rfl) rfl
              · intro w' hC K hK
                go_wp2
                exact hK
              · rfl
              apply AnyC.take (i := 13) rfl (by kernel_rfl) rfl
              · intro w' hC K hK
                go_wp2
                exact hK
              · rfl
              apply AnyC.take (i := 14) rfl (by kernel_rfl) rfl
              · intro w' hC K hK
                go_wp2
                exact hK
              · rfl
              apply AnyC.take (i := 15) rfl (by kernel_rfl) rfl
              · intro w' hC K hK
                go_wp2
                exact hK
              · rfl
              apply AnyC.take (i := 16) rfl (by kernel_rfl) rfl
              · intro w' hC K hK
                go_wp2
                exact hK
              · rfl
              apply AnyC.take (i := 17) rfl (by kernel_rfl) rfl
              · intro w' hC K hK
                go_wp2
                exact hK
              · rfl
              apply AnyC.take (i := 18) rfl (by kernel_rfl) rfl
              · intro w' hC K hK
                go_wp2
                exact hK
              · rfl
              apply AnyC.take (i := 19) rfl (by kernel_rfl) rfl
              · intro w' hC K hK
                have cc := (CC.out w' hC).1
                go_wp2
                exact hK
              · rfl
              apply AnyC.take (i := 20) rfl (by kernel_rfl) rfl
              · intro w' hC K hK
                go_wp2
                exact hK
              · rfl
              apply AnyC.take (i := 21) rfl (by kernel_rfl) rfl
              · intro w' hC K hK
                go_wp2
                exact hK
              · rfl
              apply AnyC.take (i := 22) rfl (by kernel_rfl) rfl
              · intro w' hC K hK
                go_wp2
                exact hK
              · rfl
              apply AnyC.take (i := 23) rfl (by kernel_rfl) rfl
              · intro w' hC K hK
                go_wp2
                exact hK
              · rfl
              apply AnyC.take (i := 24) rfl (by kernel_rfl) rfl
              · intro w' hC K hK
                go_wp2
                exact hK
              · rfl
              apply AnyC.take (i := 25) rfl (by kernel_rfl) rfl
              · intro w' hC K hK
                have cc := (CC.out w' hC).2.2.2.2.2
                go_wp2
                exact hK
              · rfl
              apply AnyC.take (i := 26) rfl (by kernel_rfl) rfl
              · intro w' hC K hK
                go_wp2
                exact hK
              · rfl
              apply AnyC.take (i := 27) rfl (by kernel_rfl) rfl
              · intro w' hC K hK
                go_wp2
                exact hK
              · rfl
              apply AnyC.take (i := 28) rfl (by kernel_rfl) rfl
              · intro w' hC K hK
                go_wp2
                exact hK
              · rfl
              apply AnyC.take (i := 29) rfl (by kernel_rfl) rfl
              · intro w' hC K hK
                go_wp2
                exact hK
              · rfl
              apply AnyC.take (i := 30) rfl (by kernel_rfl) rfl
              · intro w' hC K hK
                go_wp2
                exact hK
              · rfl
              apply AnyC.take (i := 31) rfl (by kernel_rfl) rfl
              · intro w' hC K hK
                go_wp2
                exact hK
              · rfl
              apply AnyC.take (i := 32) rfl (by kernel_rfl) rfl
              · intro w' hC K hK
                go_wp2
                exact hK
              · rfl
              apply AnyC.take (i := 33) rfl (by kernel_rfl) rfl
              · intro w' hC K hK
                have cc := (CC.out w' hC).2.2.1
                go_wp2
                exact hK
              · rfl
              apply AnyC.take (i := 34) rfl (by kernel_rfl) rfl
              · intro w' hC K hK
                have cc := SX.out w' hC
                go_wp2
                exact hK
              · rfl
              apply AnyC.take (i := 35) rfl (by kernel_rfl) rfl
              · intro w' hC K hK
                go_wp2
                exact hK
              · rfl
              apply AnyC.take (i := 36) rfl (by kernel_rfl) rfl
              · intro w' hC K hK
                have cc := SY.out w' hC
                go_wp2
                exact hK
              · rfl
              apply AnyC.take (i := 37) rfl (by kernel_rfl) rfl
              · intro w' hC K hK
                go_wp2
                exact hK
              · rfl
              apply AnyC.take (i := 38) rfl (by kernel_rfl) rfl
              · intro w' hC K hK
                go_wp2
                exact hK
              · rfl
              apply AnyC.take (i := 39) rfl (by kernel_rfl) rfl
              · intro w' hC K hK
                go_wp2
                exact hK
              · rfl
              apply AnyC.take (i := 40) rfl (by kernel_rfl) rfl
              · intro w' hC K hK
                go_wp2
                exact hK
              · rfl
              apply AnyC.take (i := 41) rfl (by kernel_rfl) rfl
              · intro w' hC K hK
                go_wp2
                exact hK
              · rfl
              apply AnyC.take (i := 42) rfl (by kernel_rfl) rfl
              · intro w' hC K hK
                go_wp2
                exact hK
              · rfl
              apply AnyC.take (i := 43) rfl (by kernel_rfl) rfl
              · intro w' hC K hK
                go_wp2
                exact hK
              · rfl
              apply AnyC.take (i := 44) rfl (by kernel_rfl) rfl
              · intro w' hC K hK
                have cc := (CC.out w' hC).2.2.2.1
                go_wp2
                exact hK
              · rfl
              apply AnyC.take (i := 45) rfl (by kernel_rfl) rfl
              · intro w' hC K hK
                go_wp2
                exact hK
              · rfl
              refine AnyC.done HB6.out (by kernel_rfl) ?_
              go_wp2
              go_roundw
              case rel => exact ⟨k + 1, HK.out, by go_num, HOO.out.trans (HB6.out.mono HOO.out.size)⟩
              case measure => simp [intOf]; omega
        · obtain rfl : k = 8 := by omega
          have BE := Lib.hid (HB4.out.trans (hO.out.mono HB4.out.size))
          clear hO HOO hlt hk
          go_wp2
          go_ret
          exact ⟨rfl, BE.out⟩
set_option maxRecDepth 100000 in
set_option maxHeartbeats 4000000 in
theorem pipes_all (A : Option Addr) (c : Nat) (ms : List MadeR) (w : World) (hc : ms.length ≤ c) (hat : ∀ i x, ms[i]? = some x → MadeAt w w.heap.size A i x) (hbig : ms.length ≤ 8) :
    Calls Tryd.prog 3 #[.slice A ms.length c] w fun e w' => e = .returned (.bool true) ∧ Below w.heap.size w w' := by
  obtain ⟨n, hn⟩ : ∃ n, n = ms.length := ⟨_, rfl⟩
  have hlen : ms.length = n := hn.symm
  rw [← hn] at hc hbig ⊢
  have gx0 : decide ((8 : Int) < (n : Int)) = false := by simp; omega
  have gn : (n : Int) ≤ 8 := by omega
  have gn0 : n ≤ 8 := hbig
  have gc : (n : Int) ≤ (c : Int) := by omega
  clear hn hbig hc
  have MA : Hid (∀ w', Below w.heap.size w w' → ∀ i x, ms[i]? = some x → MadeAt w' w.heap.size A i x) := fun w' hb i x hx => (hat i x hx).below hb
  have MP : Hid (∀ x ∈ ms, x.1.path < 65536) := fun x hx => by
    obtain ⟨i, hi⟩ := List.mem_iff_getElem?.1 hx
    exact (hat i x hi).2.1
  have LEN : Hid (ms.length = n) := hlen
  clear hat hlen
  go_enter Tryd.func3, Tryd.ntmps3
  go_wp2_with (first
    | (go_at_call 7; go_must (refine (awake_any w).mono ?_; rintro e w1 ⟨rfl, hb⟩; have HB1 := Lib.hid hb; clear hb)))
  go_loopw [3, 18] (fun b i wr => ∃ k : Nat, k ≤ n ∧ i = .int .i64 (k : Int) ∧ Hid (Below w.heap.size w wr ∧ Own8 wr w.heap.size b (wires (ms.take k)))) (fun _ i _ => n - (intOf i).toNat)
  case atStart => exact ⟨0, Nat.zero_le _, rfl, HB1.out, by rw [List.take_zero]; exact own8_nil _ _⟩
  case round =>
    obtain ⟨k, hk, rfl, hO⟩ := hrel
    by_cases hlt : k < n
    · have hlt' : (k : Int) < (n : Int) := by omega
      have hk0 : (0 : Int) ≤ (k : Int) := by omega
      have hkL : k < ms.length := by rw [LEN.out]; exact hlt
      obtain ⟨x, hxk⟩ : ∃ x, x = ms[k] := ⟨_, rfl⟩
      have hx? : ms[k]? = some x := by rw [List.getElem?_eq_getElem hkL, hxk]
      obtain ⟨⟨bx, ox, hA, hbx, hrow⟩, hp, hcap, hbl, hrd⟩ := MA.out wr hO.out.1 k x hx?
      subst hA
      have TK : Hid (wires (ms.take (k + 1)) = wires (ms.take k) ++ wireP x.1) := by show _ = _; rw [hxk]; exact wires_take ms k hkL
      obtain ⟨m, Ax, cx⟩ := x
      simp only at hrow hp hcap hbl hrd
      obtain ⟨px, hpx⟩ : ∃ px : Array Value, px = #[.int .u16 (m.path : Int), .slice Ax m.body.length cx, .int .u8 (m.ch.toNat : Int), .bool m.chd, .bool m.post] := ⟨_, rfl⟩
      have RX : Hid (wr.rangeAt bx (ox + k * 5) px.toList) := by show World.rangeAt _ _ _ _; rw [hpx]; exact hrow
      have ZX : Hid (px.size = 5) := by show _ = _; rw [hpx]; rfl
      have HPX : Hid (Value.agg px = m.val Ax cx) := by show _ = _; rw [hpx]; rfl
      have HP := Lib.hid hp
      have HCAP := Lib.hid hcap
      have HBL := Lib.hid hbl
      have HRD := Lib.hid (hrd.bel (Below.refl _ wr) hO.out.1.size)
      have WL := wireP_len m hp
      obtain ⟨WM, hWM⟩ : ∃ WM, WM = wireP m := ⟨_, rfl⟩
      rw [← hWM] at WL TK
      have HWM := Lib.hid hWM
      have HWL := Lib.hid WL
      have HOB := Lib.hid hO.out.1
      have HOW := Lib.hid hO.out.2
      have LB : Hid ((wires (ms.take k)).length ≤ 320000) := by
        show _ ≤ _
        have h1 := wires_len (ms.take k) (fun y hy => MP.out y (List.mem_of_mem_take hy))
        rw [List.length_take] at h1
        omega
      obtain ⟨BL, hBL⟩ : ∃ BL, BL = wires (ms.take k) := ⟨_, rfl⟩
      rw [← hBL] at HOW LB TK
      obtain ⟨A1, c1, hb1, _, _⟩ := own8_form HOW.out
      subst hb1
      have HK := Lib.hid hlt
      clear hpx hrow hp hcap hbl hrd hWM WL hO hxk hx? hBL
      go_wp2_with (first
        | (refine wpList_load_arr rfl _ _ rfl bx (ox + k * 5) rfl px _ (by with_reducible exact RX.out) Tryd.underlying27 rfl (by rw [ZX.out]; kernel_rfl) ?_)
        | (go_at_call 8; go_must (rw [HPX.out]; refine (wire_any m Ax cx wr HP.out HRD.out HCAP.out HBL.out).mono ?_; rintro e w2 ⟨A2, c2, rfl, hr2, hb2⟩; rw [← HWM.out] at hr2 ⊢; have R2 := Lib.hid hr2; have B2 := Lib.hid hb2; clear hr2 hb2))
        | (at_builtin; go_must (refine app8 (l := BL) (news := WM) (base := w.heap.size) rfl rfl rfl rfl (own8_below HOW.out B2.out) R2.out (by have h1 := LB.out; have h2 := HWL.out; omega) (Nat.le_trans HOB.out.size B2.out.size) ?_; intro v3 w3 ho hg hx; rw [← TK.out] at ho; have O3 := Lib.hid ho; have B3 := Lib.hid (Below.grown (HOB.out.trans (B2.out.mono HOB.out.size)) hg (Nat.le_trans HOB.out.size B2.out.size) (fun j hj => (own8_lt HOW.out j hj).1)); clear ho hg hx)))
      go_roundw
      case rel => exact ⟨k + 1, HK.out, by go_num, B3.out, O3.out⟩
      case measure => simp [intOf]; omega
    · obtain rfl : n = k := by omega
      have HOB := Lib.hid hO.out.1
      have hOW := hO.out.2
      rw [show ms.take n = ms from List.take_of_length_le (by rw [LEN.out]; exact Nat.le_refl _)] at hOW
      obtain ⟨rs, hF, hrl, hrs⟩ := feed_mades ms MP.out
      have LB := wires_len ms MP.out
      rw [LEN.out] at LB hrl
      obtain ⟨WS, hWS⟩ : ∃ WS, WS = wires ms := ⟨_, rfl⟩
      rw [← hWS] at hOW hF LB
      obtain ⟨NW, hNW⟩ : ∃ NW, NW = WS.length := ⟨_, rfl⟩
      obtain ⟨A1, c1, hb1, _, hr1⟩ := own8_form' hOW hNW.symm
      subst hb1
      have HLT := Lib.hid (own8_lt hOW)
      have HF : Hid (F (zeroP false) WS = (zeroP false, rs, 0)) := by show _ = _; rw [← hF]; rfl
      have HR1 := Lib.hid hr1
      have HLB : Hid (WS.length ≤ 1000000) := by show _ ≤ _; omega
      have HRL := Lib.hid hrl
      have HRS := Lib.hid hrs
      clear hO hOW hF hrl hrs LB hWS hNW hr1 hlt hk
      go_wp2_with (first
        | (go_at_call 9; go_must (refine (new_any wr).mono ?_; rintro e w3 ⟨g, rfl, P3, hb, hg⟩; have HP3 := Lib.hid P3; have HB3 := Lib.hid hb; have HG3 := Lib.hid hg; clear P3 hb hg))
        | (go_at_call 10; go_must (
            refine (feedF_any w3 g (zeroP false) _ _ _ WS A1 NW c1 HP3.out okF_zero (HR1.out.bel HB3.out HB3.out.size) (fun h0 b off hA hm => by have h1 := reads_block_lt HR1.out h0 hA; have h2 : b = g := (by simpa [PL, Value.ownBlock] using hm); have h3 := HG3.out; omega) HLB.out).mono ?_
            rintro e w4 ⟨gv, L, W4, H4, B4, rfl, hL, FF⟩
            rw [HF.out] at hL FF ⊢
            replace hL : L.map (·.1) = rs := hL
            have RG := FF.held.rr
            rw [hL] at RG
            have B34 := FF.below (K := w.heap.size) (Nat.le_trans HOB.out.size HG3.out) (Nat.le_trans HOB.out.size HB3.out.size)
            have HB4 := Lib.hid ((HOB.out.trans (HB3.out.mono HOB.out.size)).trans B34)
            obtain ⟨L1, hL1, ⟨A4, c4, hgv, hr4⟩, hx4⟩ := RG
            rw [HRL.out] at hgv hr4
            subst hgv
            have HL1 := Lib.hid hL1
            have HR4 := Lib.hid hr4
            have HX4 := Lib.hid hx4
            have LN1 : Hid (L1.length = n) := (by show _ = _; rw [← HRL.out, ← hL1]; simp)
            clear hL FF B34 hL1 hr4 hx4)))
      go_loopw [46] (fun i wr => ∃ k : Nat, k ≤ n ∧ i = .int .i64 (k : Int) ∧ Hid (Below w4.heap.size w4 wr)) (fun i _ => n - (intOf i).toNat)
      case atStart => exact ⟨0, Nat.zero_le _, rfl, Below.refl _ _⟩
      case round =>
        obtain ⟨wo, rfl⟩ : ∃ wo, wo = wr := ⟨_, rfl⟩
        obtain ⟨k, hk, rfl, hO⟩ := hrel
        have HOO := hO
        by_cases hlt : k < n
        · have hlt' : (k : Int) < (n : Int) := by omega
          have hk0 : (0 : Int) ≤ (k : Int) := by omega
          have hkL : k < ms.length := by rw [LEN.out]; exact hlt
          have hk1 : k < L1.length := by rw [LN1.out]; exact hlt
          obtain ⟨bq, oq, hA1, _, hat1⟩ := rr_at HR4.out LN1.out (by omega)
          subst hA1
          obtain ⟨hs, hrk⟩ := HRS.out k hkL
          obtain ⟨x, hxk⟩ : ∃ x, x = ms[k] := ⟨_, rfl⟩
          have hx? : ms[k]? = some x := by rw [List.getElem?_eq_getElem hkL, hxk]
          rw [← hxk] at hrk
          have hwo : Below w.heap.size w wo := HB4.out.trans (hO.out.mono HB4.out.size)
          have MAk := fun w' (hw' : Below wo.heap.size wo w') => MA.out w' (hwo.trans (hw'.mono hwo.size)) k x hx?
          obtain ⟨⟨bx, ox, hA, hbx, _⟩, hp, hcap, hbl, _⟩ := MAk wo (Below.refl _ _)
          subst hA
          obtain ⟨m, Ax, cx⟩ := x
          simp only at hp hcap hbl hrk MAk
          obtain ⟨y, hyk⟩ : ∃ y, y = L1[k] := ⟨_, rfl⟩
          have hyq : y.1 = ⟨methL m.post, m.target, hs, m.bd, false⟩ := by
            have e1 : (L1.map (·.1))[k]? = some y.1 := by rw [List.getElem?_map, List.getElem?_eq_getElem hk1, ← hyk]; rfl
            rw [HL1.out, hrk] at e1
            exact (Option.some.inj e1).symm
          obtain ⟨⟨Ah, ch, hyh, _⟩, ⟨Ab, cb, hyb, hrb⟩⟩ := HX4.out y (by rw [hyk]; exact List.getElem_mem hk1)
          obtain ⟨q, Hv, Bv⟩ := y
          simp only at hyh hyb hrb hyq
          subst hyq hyh hyb
          simp only at hyk hrb
          obtain ⟨nb, hnb⟩ : ∃ nb, nb = m.bd.length := ⟨_, rfl⟩
          obtain ⟨bl, hbl0⟩ : ∃ bl, bl = m.body.length := ⟨_, rfl⟩
          obtain ⟨dv, hdv⟩ : ∃ dv : ByteArray, dv = ⟨(Lib.decDigits m.path).toArray⟩ := ⟨_, rfl⟩
          have ds20 : dv.size ≤ 20 := by
            have h1 : dv.size = (Lib.decDigits m.path).length := by rw [hdv]; simp [ByteArray.size]
            have := dec_len 4 m.path (by omega)
            omega
          have t1 : ¬ (9223372036854775807 < 1 + dv.size) := by omega
          obtain ⟨tv, hT⟩ : ∃ tv : ByteArray, (⟨#[47]⟩ : ByteArray) ++ dv = tv := ⟨_, rfl⟩
          have hTV : tv = ⟨m.target.toArray⟩ := by
            rw [← hT, hdv]
            unfold MadeV.target
            rw [← bapp]
          obtain ⟨bs, hbs⟩ : ∃ z : ByteArray, z = ⟨m.bd.toArray⟩ := ⟨_, rfl⟩
          have HBS := Lib.hid hbs
          have HNB := Lib.hid hnb
          have HBL := Lib.hid hbl0
          have RQ : Hid (∀ w', Below wo.heap.size wo w' → w'.rangeAt bq (oq + k * 5) [.string ⟨(methL m.post).toArray⟩, .string tv, .slice Ah hs.length ch, .slice Ab nb cb, .bool false]) := by
            intro w' hw'
            have h1 := hat1 w' (hO.out.trans (hw'.mono hO.out.size)) k hk1
            rw [← hyk] at h1
            rw [hTV, hnb]
            exact h1
          have RM : Hid (∀ w', Below wo.heap.size wo w' → w'.rangeAt bx (ox + k * 5) [.int .u16 (m.path : Int), .slice Ax bl cx, .int .u8 (m.ch.toNat : Int), .bool m.chd, .bool m.post]) := by
            intro w' hw'
            obtain ⟨⟨b9, o9, hA9, _, h1⟩, _⟩ := MAk w' hw'
            cases hA9
            rw [hbl0]
            exact h1
          have RB : Hid (∀ w', Below wo.heap.size wo w' → Reads w' w.heap.size 1 Ax bl (bvs m.body)) := by
            intro w' hw'
            rw [hbl0]
            exact (MAk w' hw').2.2.2.2
          have SX : Hid (∀ w', Below wo.heap.size wo w' → (convert 24 9 (.slice Ab nb cb)).run Tryd.prog w' = .ok (.string bs) w') := by
            intro w' hw'
            rw [hbs, hnb]
            exact run_str8 (hrb.below (hO.out.trans (hw'.mono hO.out.size))) cb
          rw [← hbl0] at hcap hbl
          have HCAP := Lib.hid hcap
          obtain ⟨pth, hpth⟩ : ∃ pth, pth = m.path := ⟨_, rfl⟩
          rw [← hpth] at hp RM hdv
          have HPTH := Lib.hid hp
          have HDV := Lib.hid hdv
          have p0 : (0 : Int) ≤ (pth : Int) := by omega
          have p1 : (pth : Int) ≤ 65535 := by omega
          have bI : (bl : Int) ≤ 140737488351232 := by omega
          have cBody : wo.cell? ⟨bx, ox + k * 5 + 1, none⟩ = some (.slice Ax bl cx) := RM.out wo (Below.refl _ _) 1 _ rfl
          have HK := Lib.hid hlt
          clear hat1 hrk hxk hx? MAk hyk hrb hnb hbl0 hdv hTV hbs hpth hwo hO hk1 hkL hp hcap hbl
          rcases Nat.lt_or_ge 4096 bl with hbb | hbb
          · cases hpost : m.post
            · skip
              have gb : (4096 : Int) < (bl : Int) := by omega
              have gbc : (4096 : Int) ≤ (cx : Int) := by have := HCAP.out; omega
              have CC : Hid (∀ w', Below wo.heap.size wo w' → w'.cell? ⟨bq, oq + k * 5, none⟩ = some (.string ⟨#[71, 69, 84]⟩) ∧ w'.cell? ⟨bq, oq + k * 5 + 1, none⟩ = some (.string tv) ∧ w'.cell? ⟨bq, oq + k * 5 + 3, none⟩ = some (.slice Ab nb cb) ∧ w'.cell? ⟨bq, oq + k * 5 + 4, none⟩ = some (.bool false) ∧ w'.cell? ⟨bx, ox + k * 5, none⟩ = some (.int .u16 (pth : Int)) ∧ w'.cell? ⟨bx, ox + k * 5 + 4, none⟩ = some (.bool false)) := by
                intro w' hw'
                have h1 := RQ.out w' hw'
                have h2 := RM.out w' hw'
                rw [hpost] at h1 h2
                exact ⟨h1 0 _ rfl, h1 1 _ rfl, h1 3 _ rfl, h1 4 _ rfl, h2 0 _ rfl, h2 4 _ rfl⟩
              have SY : Hid (∀ w', Below wo.heap.size wo w' → (convert 24 9 (.slice Ax 4096 cx)).run Tryd.prog w' = .ok (.string bs) w') := by
                intro w' hw'
                rw [HBS.out]
                have h1 := RB.out w' hw'
                have h2 := h1.take (k := 4096) (by omega)
                rw [Nat.mul_one, show (bvs m.body).take 4096 = bvs m.bd from by simp [bvs, MadeV.bd]] at h2
                exact run_str8 h2 cx
              clear hpost hbb
              go_wp2
              refine AnyC.startB (fun w' => Below wo.heap.size wo w') (by kernel_rfl) rfl ?_
              intro w5 hb5 hs5
              have HB5 := Lib.hid hb5
              clear hb5 hs5
              apply AnyC.take (i := 0) rfl (by kernel_rfl) rfl
              · intro w' hC K hK
                go_wp2
                exact hK
              · rfl
              apply AnyC.take (i := 1) rfl (by kernel_rfl) rfl
              · intro w' hC K hK
                go_wp2
                exact hK
              · rfl
              apply AnyC.take (i := 2) rfl (by kernel_rfl) rfl
              · intro w' hC K hK
                go_wp2
                exact hK
              · rfl
              apply AnyC.take (i := 3) rfl (by kernel_rfl) rfl
              · intro w' hC K hK
                go_wp2
                exact hK
              · rfl
              apply AnyC.take (i := 4) rfl (by kernel_rfl) rfl
              · intro w' hC K hK
                have cc := (CC.out w' hC).2.1
                go_wp2
                exact hK
              · rfl
              apply AnyC.take (i := 5) rfl (by kernel_rfl) rfl
              · intro w' hC K hK
                go_wp2
                exact hK
              · rfl
              apply AnyC.take (i := 6) rfl (by kernel_rfl) rfl
              · intro w' hC K hK
                go_wp2
                exact hK
              · rfl
              apply AnyC.take (i := 7) rfl (by kernel_rfl) rfl
              · intro w' hC K hK
                go_wp2
                exact hK
              · rfl
              apply AnyC.take (i := 8) rfl (by kernel_rfl) rfl
              · intro w' hC K hK
                go_wp2
                exact hK
              · rfl
              apply AnyC.take (i := 9) rfl (by kernel_rfl) rfl
              · intro w' hC K hK
                have cc := (CC.out w' hC).2.2.2.2.1
                go_wp2
                exact hK
              · rfl
              apply AnyC.take (i := 10) rfl (by kernel_rfl) rfl
              · intro w' hC K hK
                go_wp2
                exact hK
              · rfl
              apply AnyC.solo (i := 11) rfl (by kernel_rfl) HB5.out
              go_wp2_with (go_at_call 11; go_must (refine (decimal_any pth (by have := HPTH.out; omega) w5).mono ?_; rintro e w6 ⟨rfl, hb⟩; rw [← HDV.out]; have HB6 := Lib.hid (HB5.out.trans (hb.mono HB5.out.size)); clear hb))
              refine ⟨rfl, ?_⟩
              apply AnyC.take (i := 12) rfl (by kernel_rfl) rfl
              · intro w' hC K hK
                go_wp2
                exact hK
              · rfl
              apply AnyC.take (i := 13) rfl (by kernel_rfl) rfl
              · intro w' hC K hK
                go_wp2
                exact hK
              · rfl
              apply AnyC.take (i := 14) rfl (by kernel_rfl) rfl
              · intro w' hC K hK
                go_wp2
                exact hK
              · rfl
              apply AnyC.take (i := 15) rfl (by kernel_rfl) rfl
              · intro w' hC K hK
                go_wp2
                exact hK
              · rfl
              apply AnyC.take (i := 16) rfl (by kernel_rfl) rfl
              · intro w' hC K hK
                go_wp2
                exact hK
              · rfl
              apply AnyC.take (i := 17) rfl (by kernel_rfl) rfl
              · intro w' hC K hK
                go_wp2
                exact hK
              · rfl
              apply AnyC.take (i := 18) rfl (by kernel_rfl) rfl
              · intro w' hC K hK
                go_wp2
                exact hK
              · rfl
              apply AnyC.take (i := 19) rfl (by kernel_rfl) rfl
              · intro w' hC K hK
                have cc := (CC.out w' hC).1
                go_wp2
                exact hK
              · rfl
              apply AnyC.take (i := 20) rfl (by kernel_rfl) rfl
              · intro w' hC K hK
                go_wp2
                exact hK
              · rfl
              apply AnyC.take (i := 21) rfl (by kernel_rfl) rfl
              · intro w' hC K hK
                go_wp2
                exact hK
              · rfl
              apply AnyC.take (i := 22) rfl (by kernel_rfl) rfl
              · intro w' hC K hK
                go_wp2
                exact hK
              · rfl
              apply AnyC.take (i := 23) rfl (by kernel_rfl) rfl
              · intro w' hC K hK
                go_wp2
                exact hK
              · rfl
              apply AnyC.take (i := 24) rfl (by kernel_rfl) rfl
              · intro w' hC K hK
                go_wp2
                exact hK
              · rfl
              apply AnyC.take (i := 25) rfl (by kernel_rfl) rfl
              · intro w' hC K hK
                have cc := (CC.out w' hC).2.2.2.2.2
                go_wp2
                exact hK
              · rfl
              apply AnyC.take (i := 26) rfl (by kernel_rfl) rfl
              · intro w' hC K hK
                go_wp2
                exact hK
              · rfl
              apply AnyC.take (i := 27) rfl (by kernel_rfl) rfl
              · intro w' hC K hK
                go_wp2
                exact hK
              · rfl
              apply AnyC.take (i := 28) rfl (by kernel_rfl) rfl
              · intro w' hC K hK
                go_wp2
                exact hK
              · rfl
              apply AnyC.take (i := 29) rfl (by kernel_rfl) rfl
              · intro w' hC K hK
                go_wp2
                exact hK
              · rfl
              apply AnyC.take (i := 30) rfl (by kernel_rfl) rfl
              · intro w' hC K hK
                go_wp2
                exact hK
              · rfl
              apply AnyC.take (i := 31) rfl (by kernel_rfl) rfl
              · intro w' hC K hK
                go_wp2
                exact hK
              · rfl
              apply AnyC.take (i := 32) rfl (by kernel_rfl) rfl
              · intro w' hC K hK
                go_wp2
                exact hK
              · rfl
              apply AnyC.take (i := 33) rfl (by kernel_rfl) rfl
              · intro w' hC K hK
                have cc := (CC.out w' hC).2.2.1
                go_wp2
                exact hK
              · rfl
              apply AnyC.take (i := 34) rfl (by kernel_rfl) rfl
              · intro w' hC K hK
                have cc := SX.out w' hC
                go_wp2
                exact hK
              · rfl
              apply AnyC.take (i := 35) rfl (by kernel_rfl) rfl
              · intro w' hC K hK
                go_wp2
                exact hK
              · rfl
              apply AnyC.take (i := 36) rfl (by kernel_rfl) rfl
              · intro w' hC K hK
                have cc := SY.out w' hC
                go_wp2
                exact hK
              · rfl
              apply AnyC.take (i := 37) rfl (by kernel_rfl) rfl
              · intro w' hC K hK
                go_wp2
                exact hK
              · rfl
              apply AnyC.take (i := 38) rfl (by kernel_rfl) rfl
              · intro w' hC K hK
                go_wp2
                exact hK
              · rfl
              apply AnyC.take (i := 39) rfl (by kernel_rfl) rfl
              · intro w' hC K hK
                go_wp2
                exact hK
              · rfl
              apply AnyC.take (i := 40) rfl (by kernel_rfl) rfl
              · intro w' hC K hK
                go_wp2
                exact hK
              · rfl
              apply AnyC.take (i := 41) rfl (by kernel_rfl) rfl
              · intro w' hC K hK
                go_wp2
                exact hK
              · rfl
              apply AnyC.take (i := 42) rfl (by kernel_rfl) rfl
              · intro w' hC K hK
                go_wp2
                exact hK
              · rfl
              apply AnyC.take (i := 43) rfl (by kernel_rfl) rfl
              · intro w' hC K hK
                go_wp2
                exact hK
              · rfl
              apply AnyC.take (i := 44) rfl (by kernel_rfl) rfl
              · intro w' hC K hK
                have cc := (CC.out w' hC).2.2.2.1
                go_wp2
                exact hK
              · rfl
              apply AnyC.take (i := 45) rfl (by kernel_rfl) rfl
              · intro w' hC K hK
                go_wp2
                exact hK
              · rfl
              refine AnyC.done HB6.out (by kernel_rfl) ?_
              go_wp2
              go_roundw
              case rel => exact ⟨k + 1, HK.out, by go_num, HOO.out.trans (HB6.out.mono HOO.out.size)⟩
              case measure => simp [intOf]; omega
            · skip
              have gb : (4096 : Int) < (bl : Int) := by omega
              have gbc : (4096 : Int) ≤ (cx : Int) := by have := HCAP.out; omega
              have CC : Hid (∀ w', Below wo.heap.size wo w' → w'.cell? ⟨bq, oq + k * 5, none⟩ = some (.string ⟨#[80, 79, 83, 84]⟩) ∧ w'.cell? ⟨bq, oq + k * 5 + 1, none⟩ = some (.string tv) ∧ w'.cell? ⟨bq, oq + k * 5 + 3, none⟩ = some (.slice Ab nb cb) ∧ w'.cell? ⟨bq, oq + k * 5 + 4, none⟩ = some (.bool false) ∧ w'.cell? ⟨bx, ox + k * 5, none⟩ = some (.int .u16 (pth : Int)) ∧ w'.cell? ⟨bx, ox + k * 5 + 4, none⟩ = some (.bool true)) := by
                intro w' hw'
                have h1 := RQ.out w' hw'
                have h2 := RM.out w' hw'
                rw [hpost] at h1 h2
                exact ⟨h1 0 _ rfl, h1 1 _ rfl, h1 3 _ rfl, h1 4 _ rfl, h2 0 _ rfl, h2 4 _ rfl⟩
              have SY : Hid (∀ w', Below wo.heap.size wo w' → (convert 24 9 (.slice Ax 4096 cx)).run Tryd.prog w' = .ok (.string bs) w') := by
                intro w' hw'
                rw [HBS.out]
                have h1 := RB.out w' hw'
                have h2 := h1.take (k := 4096) (by omega)
                rw [Nat.mul_one, show (bvs m.body).take 4096 = bvs m.bd from by simp [bvs, MadeV.bd]] at h2
                exact run_str8 h2 cx
              clear hpost hbb
              go_wp2
              refine AnyC.startB (fun w' => Below wo.heap.size wo w') (by kernel_rfl) rfl ?_
              intro w5 hb5 hs5
              have HB5 := Lib.hid hb5
              clear hb5 hs5
              apply AnyC.take (i := 0) rfl (by kernel_rfl) rfl
              · intro w' hC K hK
                go_wp2
                exact hK
              · rfl
              apply AnyC.take (i := 1) rfl (by kernel_rfl) rfl
              · intro w' hC K hK
                go_wp2
                exact hK
              · rfl
              apply AnyC.take (i := 2) rfl (by kernel_rfl) rfl
              · intro w' hC K hK
                go_wp2
                exact hK
              · rfl
              apply AnyC.take (i := 3) rfl (by kernel_rfl) rfl
              · intro w' hC K hK
                go_wp2
                exact hK
              · rfl
              apply AnyC.take (i := 4) rfl (by kernel_rfl) rfl
              · intro w' hC K hK
                have cc := (CC.out w' hC).2.1
                go_wp2
                exact hK
              · rfl
              apply AnyC.take (i := 5) rfl (by kernel_rfl) rfl
              · intro w' hC K hK
                go_wp2
                exact hK
              · rfl
              apply AnyC.take (i := 6) rfl (by kernel_rfl) rfl
              · intro w' hC K hK
                go_wp2
                exact hK
              · rfl
              apply AnyC.take (i := 7) rfl (by kernel_rfl) rfl
              · intro w' hC K hK
                go_wp2
                exact hK
              · rfl
              apply AnyC.take (i := 8) rfl (by kernel_rfl) rfl
              · intro w' hC K hK
                go_wp2
                exact hK
              · rfl
              apply AnyC.take (i := 9) rfl (by kernel_rfl) rfl
              · intro w' hC K hK
                have cc := (CC.out w' hC).2.2.2.2.1
                go_wp2
                exact hK
              · rfl
              apply AnyC.take (i := 10) rfl (by kernel_rfl) rfl
              · intro w' hC K hK
                go_wp2
                exact hK
              · rfl
              apply AnyC.solo (i := 11) rfl (by kernel_rfl) HB5.out
              go_wp2_with (go_at_call 11; go_must (refine (decimal_any pth (by have := HPTH.out; omega) w5).mono ?_; rintro e w6 ⟨rfl, hb⟩; rw [← HDV.out]; have HB6 := Lib.hid (HB5.out.trans (hb.mono HB5.out.size)); clear hb))
              refine ⟨rfl, ?_⟩
              apply AnyC.take (i := 12) rfl (by kernel_rfl) rfl
              · intro w' hC K hK
                go_wp2
                exact hK
              · rfl
              apply AnyC.take (i := 13) rfl (by kernel_rfl) rfl
              · intro w' hC K hK
                go_wp2
                exact hK
              · rfl
              apply AnyC.take (i := 14) rfl (by kernel_rfl) rfl
              · intro w' hC K hK
                go_wp2
                exact hK
              · rfl
              apply AnyC.take (i := 15) rfl (by kernel_rfl) rfl
              · intro w' hC K hK
                go_wp2
                exact hK
              · rfl
              apply AnyC.take (i := 16) rfl (by kernel_rfl) rfl
              · intro w' hC K hK
                go_wp2
                exact hK
              · rfl
              apply AnyC.take (i := 17) rfl (by kernel_rfl) rfl
              · intro w' hC K hK
                go_wp2
                exact hK
              · rfl
              apply AnyC.take (i := 18) rfl (by kernel_rfl) rfl
              · intro w' hC K hK
                go_wp2
                exact hK
              · rfl
              apply AnyC.take (i := 19) rfl (by kernel_rfl) rfl
              · intro w' hC K hK
                have cc := (CC.out w' hC).1
                go_wp2
                exact hK
              · rfl
              apply AnyC.take (i := 20) rfl (by kernel_rfl) rfl
              · intro w' hC K hK
                go_wp2
                exact hK
              · rfl
              apply AnyC.take (i := 21) rfl (by kernel_rfl) rfl
              · intro w' hC K hK
                go_wp2
                exact hK
              · rfl
              apply AnyC.take (i := 22) rfl (by kernel_rfl) rfl
              · intro w' hC K hK
                go_wp2
                exact hK
              · rfl
              apply AnyC.take (i := 23) rfl (by kernel_rfl) rfl
              · intro w' hC K hK
                go_wp2
                exact hK
              · rfl
              apply AnyC.take (i := 24) rfl (by kernel_rfl) rfl
              · intro w' hC K hK
                go_wp2
                exact hK
              · rfl
              apply AnyC.take (i := 25) rfl (by kernel_rfl) rfl
              · intro w' hC K hK
                have cc := (CC.out w' hC).2.2.2.2.2
                go_wp2
                exact hK
              · rfl
              apply AnyC.take (i := 26) rfl (by kernel_rfl) rfl
              · intro w' hC K hK
                go_wp2
                exact hK
              · rfl
              apply AnyC.take (i := 27) rfl (by kernel_rfl) rfl
              · intro w' hC K hK
                go_wp2
                exact hK
              · rfl
              apply AnyC.take (i := 28) rfl (by kernel_rfl) rfl
              · intro w' hC K hK
                go_wp2
                exact hK
              · rfl
              apply AnyC.take (i := 29) rfl (by kernel_rfl) rfl
              · intro w' hC K hK
                go_wp2
                exact hK
              · rfl
              apply AnyC.take (i := 30) rfl (by kernel_rfl) rfl
              · intro w' hC K hK
                go_wp2
                exact hK
              · rfl
              apply AnyC.take (i := 31) rfl (by kernel_rfl) rfl
              · intro w' hC K hK
                go_wp2
                exact hK
              · rfl
              apply AnyC.take (i := 32) rfl (by kernel_rfl) rfl
              · intro w' hC K hK
                go_wp2
                exact hK
              · rfl
              apply AnyC.take (i := 33) rfl (by kernel_rfl) rfl
              · intro w' hC K hK
                have cc := (CC.out w' hC).2.2.1
                go_wp2
                exact hK
              · rfl
              apply AnyC.take (i := 34) rfl (by kernel_rfl) rfl
              · intro w' hC K hK
                have cc := SX.out w' hC
                go_wp2
                exact hK
              · rfl
              apply AnyC.take (i := 35) rfl (by kernel_rfl) rfl
              · intro w' hC K hK
                go_wp2
                exact hK
              · rfl
              apply AnyC.take (i := 36) rfl (by kernel_rfl) rfl
              · intro w' hC K hK
                have cc := SY.out w' hC
                go_wp2
                exact hK
              · rfl
              apply AnyC.take (i := 37) rfl (by kernel_rfl) rfl
              · intro w' hC K hK
                go_wp2
                exact hK
              · rfl
              apply AnyC.take (i := 38) rfl (by kernel_rfl) rfl
              · intro w' hC K hK
                go_wp2
                exact hK
              · rfl
              apply AnyC.take (i := 39) rfl (by kernel_rfl) rfl
              · intro w' hC K hK
                go_wp2
                exact hK
              · rfl
              apply AnyC.take (i := 40) rfl (by kernel_rfl) rfl
              · intro w' hC K hK
                go_wp2
                exact hK
              · rfl
              apply AnyC.take (i := 41) rfl (by kernel_rfl) rfl
              · intro w' hC K hK
                go_wp2
                exact hK
              · rfl
              apply AnyC.take (i := 42) rfl (by kernel_rfl) rfl
              · intro w' hC K hK
                go_wp2
                exact hK
              · rfl
              apply AnyC.take (i := 43) rfl (by kernel_rfl) rfl
              · intro w' hC K hK
                go_wp2
                exact hK
              · rfl
              apply AnyC.take (i := 44) rfl (by kernel_rfl) rfl
              · intro w' hC K hK
                have cc := (CC.out w' hC).2.2.2.1
                go_wp2
                exact hK
              · rfl
              apply AnyC.take (i := 45) rfl (by kernel_rfl) rfl
              · intro w' hC K hK
                go_wp2
                exact hK
              · rfl
              refine AnyC.done HB6.out (by kernel_rfl) ?_
              go_wp2
              go_roundw
              case rel => exact ⟨k + 1, HK.out, by go_num, HOO.out.trans (HB6.out.mono HOO.out.size)⟩
              case measure => simp [intOf]; omega
          · cases hpost : m.post
            · skip
              have gb : decide ((4096 : Int) < (bl : Int)) = false := by simp; omega
              have CC : Hid (∀ w', Below wo.heap.size wo w' → w'.cell? ⟨bq, oq + k * 5, none⟩ = some (.string ⟨#[71, 69, 84]⟩) ∧ w'.cell? ⟨bq, oq + k * 5 + 1, none⟩ = some (.string tv) ∧ w'.cell? ⟨bq, oq + k * 5 + 3, none⟩ = some (.slice Ab nb cb) ∧ w'.cell? ⟨bq, oq + k * 5 + 4, none⟩ = some (.bool false) ∧ w'.cell? ⟨bx, ox + k * 5, none⟩ = some (.int .u16 (pth : Int)) ∧ w'.cell? ⟨bx, ox + k * 5 + 4, none⟩ = some (.bool false)) := by
                intro w' hw'
                have h1 := RQ.out w' hw'
                have h2 := RM.out w' hw'
                rw [hpost] at h1 h2
                exact ⟨h1 0 _ rfl, h1 1 _ rfl, h1 3 _ rfl, h1 4 _ rfl, h2 0 _ rfl, h2 4 _ rfl⟩
              have SY : Hid (∀ w', Below wo.heap.size wo w' → (convert 24 9 (.slice Ax bl cx)).run Tryd.prog w' = .ok (.string bs) w') := by
                intro w' hw'
                rw [HBS.out]
                have h1 := RB.out w' hw'
                rw [show m.bd = m.body from List.take_of_length_le (by rw [← HBL.out]; omega)]
                exact run_str8 h1 cx
              clear hpost hbb
              go_wp2
              refine AnyC.startB (fun w' => Below wo.heap.size wo w') (by kernel_rfl) rfl ?_
              intro w5 hb5 hs5
              have HB5 := Lib.hid hb5
              clear hb5 hs5
              apply AnyC.take (i := 0) rfl (by kernel_rfl) rfl
              · intro w' hC K hK
                go_wp2
                exact hK
              · rfl
              apply AnyC.take (i := 1) rfl (by kernel_rfl) rfl
              · intro w' hC K hK
                go_wp2
                exact hK
              · rfl
              apply AnyC.take (i := 2) rfl (by kernel_rfl) rfl
              · intro w' hC K hK
                go_wp2
                exact hK
              · rfl
              apply AnyC.take (i := 3) rfl (by kernel_rfl) rfl
              · intro w' hC K hK
                go_wp2
                exact hK
              · rfl
              apply AnyC.take (i := 4) rfl (by kernel_rfl) rfl
              · intro w' hC K hK
                have cc := (CC.out w' hC).2.1
                go_wp2
                exact hK
              · rfl
              apply AnyC.take (i := 5) rfl (by kernel_rfl) rfl
              · intro w' hC K hK
                go_wp2
                exact hK
              · rfl
              apply AnyC.take (i := 6) rfl (by kernel_rfl) rfl
              · intro w' hC K hK
                go_wp2
                exact hK
              · rfl
              apply AnyC.take (i := 7) rfl (by kernel_rfl) rfl
              · intro w' hC K hK
                go_wp2
                exact hK
              · rfl
              apply AnyC.take (i := 8) rfl (by kernel_rfl) rfl
              · intro w' hC K hK
                go_wp2
                exact hK
              · rfl
              apply AnyC.take (i := 9) rfl (by kernel_rfl) rfl
              · intro w' hC K hK
                have cc := (CC.out w' hC).2.2.2.2.1
                go_wp2
                exact hK
              · rfl
              apply AnyC.take (i := 10) rfl (by kernel_rfl) rfl
              · intro w' hC K hK
                go_wp2
                exact hK
              · rfl
              apply AnyC.solo (i := 11) rfl (by kernel_rfl) HB5.out
              go_wp2_with (go_at_call 11; go_must (refine (decimal_any pth (by have := HPTH.out; omega) w5).mono ?_; rintro e w6 ⟨rfl, hb⟩; rw [← HDV.out]; have HB6 := Lib.hid (HB5.out.trans (hb.mono HB5.out.size)); clear hb))
              refine ⟨rfl, ?_⟩
              apply AnyC.take (i := 12) rfl (by kernel_rfl) rfl
              · intro w' hC K hK
                go_wp2
                exact hK
              · rfl
              apply AnyC.take (i := 13) rfl (by kernel_rfl) rfl
              · intro w' hC K hK
                go_wp2
                exact hK
              · rfl
              apply AnyC.take (i := 14) rfl (by kernel_rfl) rfl
              · intro w' hC K hK
                go_wp2
                exact hK
              · rfl
              apply AnyC.take (i := 15) rfl (by kernel_rfl) rfl
              · intro w' hC K hK
                go_wp2
                exact hK
              · rfl
              apply AnyC.take (i := 16) rfl (by kernel_rfl) rfl
              · intro w' hC K hK
                go_wp2
                exact hK
              · rfl
              apply AnyC.take (i := 17) rfl (by kernel_rfl) rfl
              · intro w' hC K hK
                go_wp2
                exact hK
              · rfl
              apply AnyC.take (i := 18) rfl (by kernel_rfl) rfl
              · intro w' hC K hK
                go_wp2
                exact hK
              · rfl
              apply AnyC.take (i := 19) rfl (by kernel_rfl) rfl
              · intro w' hC K hK
                have cc := (CC.out w' hC).1
                go_wp2
                exact hK
              · rfl
              apply AnyC.take (i := 20) rfl (by kernel_rfl) rfl
              · intro w' hC K hK
                go_wp2
                exact hK
              · rfl
              apply AnyC.take (i := 21) rfl (by kernel_rfl) rfl
              · intro w' hC K hK
                go_wp2
                exact hK
              · rfl
              apply AnyC.take (i := 22) rfl (by kernel_rfl) rfl
              · intro w' hC K hK
                go_wp2
                exact hK
              · rfl
              apply AnyC.take (i := 23) rfl (by kernel_rfl) rfl
              · intro w' hC K hK
                go_wp2
                exact hK
              · rfl
              apply AnyC.take (i := 24) rfl (by kernel_rfl) rfl
              · intro w' hC K hK
                go_wp2
                exact hK
              · rfl
              apply AnyC.take (i := 25) rfl (by kernel_rfl) rfl
              · intro w' hC K hK
                have cc := (CC.out w' hC).2.2.2.2.2
                go_wp2
                exact hK
              · rfl
              apply AnyC.take (i := 26) rfl (by kernel_rfl) rfl
              · intro w' hC K hK
                go_wp2
                exact hK
              · rfl
              apply AnyC.take (i := 27) rfl (by kernel_rfl) rfl
              · intro w' hC K hK
                go_wp2
                exact hK
              · rfl
              apply AnyC.take (i := 28) rfl (by kernel_rfl) rfl
              · intro w' hC K hK
                go_wp2
                exact hK
              · rfl
              apply AnyC.take (i := 29) rfl (by kernel_rfl) rfl
              · intro w' hC K hK
                go_wp2
                exact hK
              · rfl
              apply AnyC.take (i := 30) rfl (by kernel_rfl) rfl
              · intro w' hC K hK
                go_wp2
                exact hK
              · rfl
              apply AnyC.take (i := 31) rfl (by kernel_rfl) rfl
              · intro w' hC K hK
                go_wp2
                exact hK
              · rfl
              apply AnyC.take (i := 32) rfl (by kernel_rfl) rfl
              · intro w' hC K hK
                go_wp2
                exact hK
              · rfl
              apply AnyC.take (i := 33) rfl (by kernel_rfl) rfl
              · intro w' hC K hK
                have cc := (CC.out w' hC).2.2.1
                go_wp2
                exact hK
              · rfl
              apply AnyC.take (i := 34) rfl (by kernel_rfl) rfl
              · intro w' hC K hK
                have cc := SX.out w' hC
                go_wp2
                exact hK
              · rfl
              apply AnyC.take (i := 35) rfl (by kernel_rfl) rfl
              · intro w' hC K hK
                go_wp2
                exact hK
              · rfl
              apply AnyC.take (i := 36) rfl (by kernel_rfl) rfl
              · intro w' hC K hK
                have cc := SY.out w' hC
                go_wp2
                exact hK
              · rfl
              apply AnyC.take (i := 37) rfl (by kernel_rfl) rfl
              · intro w' hC K hK
                go_wp2
                exact hK
              · rfl
              apply AnyC.take (i := 38) rfl (by kernel_rfl) rfl
              · intro w' hC K hK
                go_wp2
                exact hK
              · rfl
              apply AnyC.take (i := 39) rfl (by kernel_rfl) rfl
              · intro w' hC K hK
                go_wp2
                exact hK
              · rfl
              apply AnyC.take (i := 40) rfl (by kernel_rfl) rfl
              · intro w' hC K hK
                go_wp2
                exact hK
              · rfl
              apply AnyC.take (i := 41) rfl (by kernel_rfl) rfl
              · intro w' hC K hK
                go_wp2
                exact hK
              · rfl
              apply AnyC.take (i := 42) rfl (by kernel_rfl) rfl
              · intro w' hC K hK
                go_wp2
                exact hK
              · rfl
              apply AnyC.take (i := 43) rfl (by kernel_rfl) rfl
              · intro w' hC K hK
                go_wp2
                exact hK
              · rfl
              apply AnyC.take (i := 44) rfl (by kernel_rfl) rfl
              · intro w' hC K hK
                have cc := (CC.out w' hC).2.2.2.1
                go_wp2
                exact hK
              · rfl
              apply AnyC.take (i := 45) rfl (by kernel_rfl) rfl
              · intro w' hC K hK
                go_wp2
                exact hK
              · rfl
              refine AnyC.done HB6.out (by kernel_rfl) ?_
              go_wp2
              go_roundw
              case rel => exact ⟨k + 1, HK.out, by go_num, HOO.out.trans (HB6.out.mono HOO.out.size)⟩
              case measure => simp [intOf]; omega
            · skip
              have gb : decide ((4096 : Int) < (bl : Int)) = false := by simp; omega
              have CC : Hid (∀ w', Below wo.heap.size wo w' → w'.cell? ⟨bq, oq + k * 5, none⟩ = some (.string ⟨#[80, 79, 83, 84]⟩) ∧ w'.cell? ⟨bq, oq + k * 5 + 1, none⟩ = some (.string tv) ∧ w'.cell? ⟨bq, oq + k * 5 + 3, none⟩ = some (.slice Ab nb cb) ∧ w'.cell? ⟨bq, oq + k * 5 + 4, none⟩ = some (.bool false) ∧ w'.cell? ⟨bx, ox + k * 5, none⟩ = some (.int .u16 (pth : Int)) ∧ w'.cell? ⟨bx, ox + k * 5 + 4, none⟩ = some (.bool true)) := by
                intro w' hw'
                have h1 := RQ.out w' hw'
                have h2 := RM.out w' hw'
                rw [hpost] at h1 h2
                exact ⟨h1 0 _ rfl, h1 1 _ rfl, h1 3 _ rfl, h1 4 _ rfl, h2 0 _ rfl, h2 4 _ rfl⟩
              have SY : Hid (∀ w', Below wo.heap.size wo w' → (convert 24 9 (.slice Ax bl cx)).run Tryd.prog w' = .ok (.string bs) w') := by
                intro w' hw'
                rw [HBS.out]
                have h1 := RB.out w' hw'
                rw [show m.bd = m.body from List.take_of_length_le (by rw [← HBL.out]; omega)]
                exact run_str8 h1 cx
              clear hpost hbb
              go_wp2
              refine AnyC.startB (fun w' => Below wo.heap.size wo w') (by kernel_rfl) rfl ?_
              intro w5 hb5 hs5
              have HB5 := Lib.hid hb5
              clear hb5 hs5
              apply AnyC.take (i := 0) rfl (by kernel_rfl) rfl
              · intro w' hC K hK
                go_wp2
                exact hK
              · rfl
              apply AnyC.take (i := 1) rfl (by kernel_rfl) rfl
              · intro w' hC K hK
                go_wp2
                exact hK
              · rfl
              apply AnyC.take (i := 2) rfl (by kernel_rfl) rfl
              · intro w' hC K hK
                go_wp2
                exact hK
              · rfl
              apply AnyC.take (i := 3) rfl (by kernel_rfl) rfl
              · intro w' hC K hK
                go_wp2
                exact hK
              · rfl
              apply AnyC.take (i := 4) rfl (by kernel_rfl) rfl
              · intro w' hC K hK
                have cc := (CC.out w' hC).2.1
                go_wp2
                exact hK
              · rfl
              apply AnyC.take (i := 5) rfl (by kernel_rfl) rfl
              · intro w' hC K hK
                go_wp2
                exact hK
              · rfl
              apply AnyC.take (i := 6) rfl (by kernel_rfl) rfl
              · intro w' hC K hK
                go_wp2
                exact hK
              · rfl
              apply AnyC.take (i := 7) rfl (by kernel_rfl) rfl
              · intro w' hC K hK
                go_wp2
                exact hK
              · rfl
              apply AnyC.take (i := 8) rfl (by kernel_rfl) rfl
              · intro w' hC K hK
                go_wp2
                exact hK
              · rfl
              apply AnyC.take (i := 9) rfl (by kernel_rfl) rfl
              · intro w' hC K hK
                have cc := (CC.out w' hC).2.2.2.2.1
                go_wp2
                exact hK
              · rfl
              apply AnyC.take (i := 10) rfl (by kernel_rfl) rfl
              · intro w' hC K hK
                go_wp2
                exact hK
              · rfl
              apply AnyC.solo (i := 11) rfl (by kernel_rfl) HB5.out
              go_wp2_with (go_at_call 11; go_must (refine (decimal_any pth (by have := HPTH.out; omega) w5).mono ?_; rintro e w6 ⟨rfl, hb⟩; rw [← HDV.out]; have HB6 := Lib.hid (HB5.out.trans (hb.mono HB5.out.size)); clear hb))
              refine ⟨rfl, ?_⟩
              apply AnyC.take (i := 12) rfl (by kernel_rfl) rfl
              · intro w' hC K hK
                go_wp2
                exact hK
              · rfl
              apply AnyC.take (i := 13) rfl (by kernel_rfl) rfl
              · intro w' hC K hK
                go_wp2
                exact hK
              · rfl
              apply AnyC.take (i := 14) rfl (by kernel_rfl) rfl
              · intro w' hC K hK
                go_wp2
                exact hK
              · rfl
              apply AnyC.take (i := 15) rfl (by kernel_rfl) rfl
              · intro w' hC K hK
                go_wp2
                exact hK
              · rfl
              apply AnyC.take (i := 16) rfl (by kernel_rfl) rfl
              · intro w' hC K hK
                go_wp2
                exact hK
              · rfl
              apply AnyC.take (i := 17) rfl (by kernel_rfl) rfl
              · intro w' hC K hK
                go_wp2
                exact hK
              · rfl
              apply AnyC.take (i := 18) rfl (by kernel_rfl) rfl
              · intro w' hC K hK
                go_wp2
                exact hK
              · rfl
              apply AnyC.take (i := 19) rfl (by kernel_rfl) rfl
              · intro w' hC K hK
                have cc := (CC.out w' hC).1
                go_wp2
                exact hK
              · rfl
              apply AnyC.take (i := 20) rfl (by kernel_rfl) rfl
              · intro w' hC K hK
                go_wp2
                exact hK
              · rfl
              apply AnyC.take (i := 21) rfl (by kernel_rfl) rfl
              · intro w' hC K hK
                go_wp2
                exact hK
              · rfl
              apply AnyC.take (i := 22) rfl (by kernel_rfl) rfl
              · intro w' hC K hK
                go_wp2
                exact hK
              · rfl
              apply AnyC.take (i := 23) rfl (by kernel_rfl) rfl
              · intro w' hC K hK
                go_wp2
                exact hK
              · rfl
              apply AnyC.take (i := 24) rfl (by kernel_rfl) rfl
              · intro w' hC K hK
                go_wp2
                exact hK
              · rfl
              apply AnyC.take (i := 25) rfl (by kernel_rfl) rfl
              · intro w' hC K hK
                have cc := (CC.out w' hC).2.2.2.2.2
                go_wp2
                exact hK
              · rfl
              apply AnyC.take (i := 26) rfl (by kernel_rfl) rfl
              · intro w' hC K hK
                go_wp2
                exact hK
              · rfl
              apply AnyC.take (i := 27) rfl (by kernel_rfl) rfl
              · intro w' hC K hK
                go_wp2
                exact hK
              · rfl
              apply AnyC.take (i := 28) rfl (by kernel_rfl) rfl
              · intro w' hC K hK
                go_wp2
                exact hK
              · rfl
              apply AnyC.take (i := 29) rfl (by kernel_rfl) rfl
              · intro w' hC K hK
                go_wp2
                exact hK
              · rfl
              apply AnyC.take (i := 30) rfl (by kernel_rfl) rfl
              · intro w' hC K hK
                go_wp2
                exact hK
              · rfl
              apply AnyC.take (i := 31) rfl (by kernel_rfl) rfl
              · intro w' hC K hK
                go_wp2
                exact hK
              · rfl
              apply AnyC.take (i := 32) rfl (by kernel_rfl) rfl
              · intro w' hC K hK
                go_wp2
                exact hK
              · rfl
              apply AnyC.take (i := 33) rfl (by kernel_rfl) rfl
              · intro w' hC K hK
                have cc := (CC.out w' hC).2.2.1
                go_wp2
                exact hK
              · rfl
              apply AnyC.take (i := 34) rfl (by kernel_rfl) rfl
              · intro w' hC K hK
                have cc := SX.out w' hC
                go_wp2
                exact hK
              · rfl
              apply AnyC.take (i := 35) rfl (by kernel_rfl) rfl
              · intro w' hC K hK
                go_wp2
                exact hK
              · rfl
              apply AnyC.take (i := 36) rfl (by kernel_rfl) rfl
              · intro w' hC K hK
                have cc := SY.out w' hC
                go_wp2
                exact hK
              · rfl
              apply AnyC.take (i := 37) rfl (by kernel_rfl) rfl
              · intro w' hC K hK
                go_wp2
                exact hK
              · rfl
              apply AnyC.take (i := 38) rfl (by kernel_rfl) rfl
              · intro w' hC K hK
                go_wp2
                exact hK
              · rfl
              apply AnyC.take (i := 39) rfl (by kernel_rfl) rfl
              · intro w' hC K hK
                go_wp2
                exact hK
              · rfl
              apply AnyC.take (i := 40) rfl (by kernel_rfl) rfl
              · intro w' hC K hK
                go_wp2
                exact hK
              · rfl
              apply AnyC.take (i := 41) rfl (by kernel_rfl) rfl
              · intro w' hC K hK
                go_wp2
                exact hK
              · rfl
              apply AnyC.take (i := 42) rfl (by kernel_rfl) rfl
              · intro w' hC K hK
                go_wp2
                exact hK
              · rfl
              apply AnyC.take (i := 43) rfl (by kernel_rfl) rfl
              · intro w' hC K hK
                go_wp2
                exact hK
              · rfl
              apply AnyC.take (i := 44) rfl (by kernel_rfl) rfl
              · intro w' hC K hK
                have cc := (CC.out w' hC).2.2.2.1
                go_wp2
                exact hK
              · rfl
              apply AnyC.take (i := 45) rfl (by kernel_rfl) rfl
              · intro w' hC K hK
                go_wp2
                exact hK
              · rfl
              refine AnyC.done HB6.out (by kernel_rfl) ?_
              go_wp2
              go_roundw
              case rel => exact ⟨k + 1, HK.out, by go_num, HOO.out.trans (HB6.out.mono HOO.out.size)⟩
              case measure => simp [intOf]; omega
        · obtain rfl : n = k := by omega
          have BE := Lib.hid (HB4.out.trans (hO.out.mono HB4.out.size))
          clear hO HOO hlt hk
          go_wp2
          go_ret
          exact ⟨rfl, BE.out⟩
theorem pipes_walk (v0 : Value) (ms : List MadeR) (w : World) (a0 : ArgMs w v0 ms) :
    Calls Tryd.prog 3 #[v0] w fun e w' => e = .returned (.bool true) ∧ Below w.heap.size w w' := by
  obtain ⟨A, c, rfl, hc, hl, hat⟩ := a0
  rcases Nat.lt_or_ge 8 ms.length with h | h
  · exact pipes_cut A c ms w hc hl hat h
  · exact pipes_all A c ms w hc hat h
end Go.Proofs.YtjichadkonlfpaaDoor
