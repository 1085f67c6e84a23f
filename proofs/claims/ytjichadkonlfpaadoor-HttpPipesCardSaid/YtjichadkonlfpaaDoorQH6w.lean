/- The texts H6f of this work, merged by wip/merge.py. No conditions. -/
import Derived.Test.YtjichadkonlfpaaDoorQH45
namespace Go.Proofs.YtjichadkonlfpaaDoor
open Go.RowKit
set_option maxRecDepth 100000 in
set_option maxHeartbeats 4000000 in
theorem whM1zd (w : World) (g : Nat) (s : PS) (W H B : Value) (P : Par w g s W H B) (hh : s.hs.length ≤ 1000000000) (hv : ∀ p ∈ s.hs, p.2.length ≤ 140737488355328 ∧ ∀ b ∈ p.2, b.toNat < 128) (z q ho cn : List (List UInt8)) (hz : valuesP s.hs clW = z) (hq : valuesP s.hs teW = q) (hho : valuesP s.hs hostW = ho) (hcn : valuesP s.hs connW = cn) (hold : s.old = true) (v : List UInt8) (hq1 : q = []) (hz1 : z = [v]) (hbs : badSize v = false) (hgt4 : 4096 < numD v) : Calls Tryd.prog 22 #[.pointer (some ⟨g, 0, none⟩)] w (PPost g W H B w (({ s with cl := closeC (keepC true cn) cn, lf := (numD v : Int) }, (413 : Int))).1 (.int .i64 (({ s with cl := closeC (keepC true cn) cn, lf := (numD v : Int) }, (413 : Int))).2)) := by
  have HP := Lib.hid P
  have HH := Lib.hid hh
  have HV := Lib.hid hv
  have HZ := Lib.hid hz
  have HQ := Lib.hid hq
  have HHO := Lib.hid hho
  have HCN := Lib.hid hcn
  have GL : Hid (g < w.heap.size) := lt_of_heap P.row
  have e9 := P.at_.2.2.2.2.2.2.2.2.2.1
  rw [hold] at e9
  have HOLD := Lib.hid hold
  obtain ⟨nz, hnz⟩ : ∃ n, n = z.length := ⟨_, rfl⟩
  obtain ⟨nq, hnq⟩ : ∃ n, n = q.length := ⟨_, rfl⟩
  obtain ⟨nh, hnh⟩ : ∃ n, n = ho.length := ⟨_, rfl⟩
  obtain ⟨nc, hnc⟩ : ∃ n, n = cn.length := ⟨_, rfl⟩
  have NZ := Lib.hid hnz.symm
  have NQ := Lib.hid hnq.symm
  have NH := Lib.hid hnh.symm
  have NC := Lib.hid hnc.symm
  have bz : (nz : Int) ≤ 1000000000 := by rw [hnz, ← hz]; have := valuesP_le s.hs clW; omega
  have bq : (nq : Int) ≤ 1000000000 := by rw [hnq, ← hq]; have := valuesP_le s.hs teW; omega
  have bc : (nc : Int) ≤ 1000000000 := by rw [hnc, ← hcn]; have := valuesP_le s.hs connW; omega
  have z0 : (0 : Int) ≤ (nz : Int) := by omega
  have q0 : (0 : Int) ≤ (nq : Int) := by omega
  have h2 : nq = 0 := by rw [hnq, hq1]; rfl
  have h3 : nz = 1 := by rw [hnz, hz1]; rfl
  subst h2 h3
  have HQ1 := Lib.hid hq1
  have HZ1 := Lib.hid hz1
  have hvv : v.length ≤ 140737488355328 ∧ ∀ b ∈ v, b.toNat < 128 := by
    have hm : v ∈ valuesP s.hs clW := by rw [hz, hz1]; simp
    unfold valuesP at hm
    obtain ⟨p, hp, rfl⟩ := List.mem_map.1 hm
    exact hv p (List.mem_filter.1 hp).1
  have HVV := Lib.hid hvv
  clear hvv
  have HBS := Lib.hid hbs
  have HGT := Lib.hid hgt4
  have HP0 := Lib.hid P
  have D0 : Hid (Below w.heap.size w w) := Below.refl _ _
  have T0 : Hid True := trivial
  clear P hh hv hz hq hho hcn hold hnz hnq hnh hnc
  clear hq1 hz1 hbs hgt4
  go_enter Tryd.func22, Tryd.ntmps22
  go_wp2_with (first
    | (go_at_call 31; have hx_ := T2; go_must (refine (values_any _ g { s with cl := true } _ _ _ connW S8.out.1 HH.out).mono ?_; rintro e w4 ⟨v, rfl, ho_, hb⟩; rw [show valuesP ({ s with cl := true } : PS).hs connW = _ from HCN.out, NC.out] at ho_; obtain ⟨AC, cC, hv_, _, _⟩ := ownR_form ho_; subst hv_; have OC4 := Lib.hid ho_; have HP4 := Lib.hid (S8.out.1.below hb); have M4 : Hid (Frm [g] w2 w4) := (Frm.setCell _ _ _ _).trans (Frm.of_below hb); have F4 : Hid (Frm [g] w w4) := (Frm.of_below D2.out).trans M4.out; have Z4 := Lib.hid (ownR_frms OZ2.out M4.out (fun q hq => .inl (by rw [List.mem_singleton.1 hq]; have h_ := GL.out; have h2_ := D2.out.size; omega))); have Q4 := Lib.hid (ownR_frms OQ2.out M4.out (fun q hq => .inl (by rw [List.mem_singleton.1 hq]; have h_ := GL.out; have h2_ := D1.out.size; omega))); have G4 : Hid (g < (w2.setCell ⟨g, 8, none⟩ (.bool true)).heap.size) := lt_of_heap S8.out.1.row; have TC := hx_; clear T2 hx_ ho_ hb e8 e9_ f8))
    | (go_at_call 31; have hx_ := T1; go_must (refine (values_any _ g s _ _ _ teW HP1.out HH.out).mono ?_; rintro e w2 ⟨v, rfl, ho_, hb⟩; rw [show valuesP (s).hs teW = _ from HQ.out, NQ.out] at ho_; obtain ⟨AOQ, cOQ, hv_, _, _⟩ := ownR_form ho_; subst hv_; have OQ2 := Lib.hid ho_; have OZ2 := Lib.hid (ownR_below OZ1.out hb); have HP2 := Lib.hid (Par.below HP1.out hb); have n9_2 := HP2.out.at_.2.2.2.2.2.2.2.2.2.1; rw [show (s : PS).old = _ from HOLD.out] at n9_2; have D2 := Lib.hid (D1.out.trans (hb.mono D1.out.size)); have T2 := hx_; have a_ := HP2.out.at_; obtain ⟨_, _, _, _, _, _, _, _, e8, e9_, _⟩ := a_; rw [HOLD.out] at e9_; have f8 := HP2.out.fz 8; have S8 := Lib.hid (HP2.out.set (s' := { s with cl := true }) 8 (.bool true) rfl rfl rfl rfl); clear T1 hx_ ho_ hb))
    | (go_at_call 31; have hx_ := T0; go_must (refine (values_any _ g s _ _ _ clW HP0.out HH.out).mono ?_; rintro e w1 ⟨v, rfl, ho_, hb⟩; rw [show valuesP (s).hs clW = _ from HZ.out, NZ.out] at ho_; obtain ⟨AOZ, cOZ, hv_, _, _⟩ := ownR_form ho_; subst hv_; have OZ1 := Lib.hid ho_; have HP1 := Lib.hid (Par.below HP0.out hb); have n9_1 := HP1.out.at_.2.2.2.2.2.2.2.2.2.1; rw [show (s : PS).old = _ from HOLD.out] at n9_1; have D1 := Lib.hid (D0.out.trans (hb.mono D0.out.size)); have T1 := hx_; clear T0 hx_ ho_ hb)))
  obtain ⟨G, hG⟩ : ∃ G, G = (w2.setCell ⟨g, 8, none⟩ (.bool true)).heap.size := ⟨_, rfl⟩
  rw [← hG] at OC4 G4
  clear hG
  go_loopw [47] (fun i wr => ∃ k : Nat, k ≤ nc ∧ i = .int .i64 (k : Int) ∧ Hid (Par wr g { s with cl := keepC true (cn.take k) } W H B ∧ Frm [g] w4 wr)) (fun i _ => nc - (intOf i).toNat)
  case atStart => exact ⟨0, Nat.zero_le _, rfl, HP4.out, Frm.refl _ _⟩
  case round =>
    obtain ⟨k, hk, rfl, hO⟩ := hrel
    by_cases hlt : k < nc
    · have hlt' : (k : Int) < (nc : Int) := by omega
      have hk0 : (0 : Int) ≤ (k : Int) := by omega
      have hkc : k < cn.length := by rw [NC.out]; exact hlt
      have OCr := ownR_frms OC4.out hO.out.2 (fun q hq => .inl (by rw [List.mem_singleton.1 hq]; exact G4.out))
      obtain ⟨bC, hAC, cc⟩ := StrL.at_ (l := cn) (by show World.ownsRow _ _ _ _ _ _ _; rw [NC.out]; exact OCr) NC.out k hkc
      subst hAC
      have SU := Lib.hid (keepC_succ true cn k hkc)
      obtain ⟨x, hx⟩ : ∃ x, x = cn[k] := ⟨_, rfl⟩
      rw [← hx] at cc SU
      have HX : Hid (x.length ≤ 140737488355328 ∧ ∀ b ∈ x, b.toNat < 128) := by
        have hm : x ∈ valuesP s.hs connW := by rw [HCN.out, hx]; exact List.getElem_mem hkc
        unfold valuesP at hm
        obtain ⟨p, hp, rfl⟩ := List.mem_map.1 hm
        exact HV.out p (List.mem_filter.1 hp).1
      obtain ⟨y, hy⟩ : ∃ y, y = Lib.toLowerA x := ⟨_, rfl⟩
      have HY := Lib.hid hy
      have HK := Lib.hid hlt
      clear hx hy OCr
      cases hq1 : (y == [107, 101, 101, 112, 45, 97, 108, 105, 118, 101])
      · have SU2 : Hid (keepC true (cn.take (k + 1)) = keepC true (cn.take k)) := by show _ = _; have h_ : lowIs keepW x = false := (by show (Lib.toLowerA x == [107, 101, 101, 112, 45, 97, 108, 105, 118, 101]) = false; rw [← HY.out]; exact hq1); rw [SU.out, h_]; rfl
        go_wp2_with (go_at_call 27; go_must (refine (lower_any x HX.out.1 HX.out.2 wr).mono ?_; rintro e w6 ⟨rfl, hb⟩; rw [← HY.out]; have GG := Lib.hid (And.intro (hO.out.1.below hb) (hO.out.2.trans (Frm.of_below hb))); clear hb))
        go_roundw
        case rel => exact ⟨k + 1, HK.out, by go_num, by rw [SU2.out]; exact GG.out.1, GG.out.2⟩
        case measure => simp [intOf]; omega
      · have SU2 : Hid (keepC true (cn.take (k + 1)) = false) := by show _ = _; have h_ : lowIs keepW x = true := (by show (Lib.toLowerA x == [107, 101, 101, 112, 45, 97, 108, 105, 118, 101]) = true; rw [← HY.out]; exact hq1); rw [SU.out, h_]; rfl
        go_wp2_with (go_at_call 27; go_must (refine (lower_any x HX.out.1 HX.out.2 wr).mono ?_; rintro e w6 ⟨rfl, hb⟩; rw [← HY.out]; have P6 := hO.out.1.below hb; have e8 := P6.at_.2.2.2.2.2.2.2.2.1; have f8 := P6.fz 8; have S6 := P6.set (s' := { s with cl := false }) 8 (.bool false) rfl rfl rfl rfl; have FG : Frm [g] w4 (w6.setCell ⟨g, 8, none⟩ (.bool false)) := (hO.out.2.trans (Frm.of_below hb)).trans (Frm.setCell w6 g 8 (.bool false)); have GG := Lib.hid (And.intro S6.1 FG); clear hb P6 S6 FG))
        go_roundw
        case rel => exact ⟨k + 1, HK.out, by go_num, by rw [SU2.out]; exact GG.out.1, GG.out.2⟩
        case measure => simp [intOf]; omega
    · obtain rfl : k = nc := by omega
      have hP5 := hO.out.1
      rw [show cn.take k = cn from by rw [← NC.out, List.take_length]] at hP5
      obtain ⟨o5, ho5⟩ : ∃ b : Bool, b = keepC true cn := ⟨_, rfl⟩
      rw [← ho5] at hP5
      have HO5 := Lib.hid ho5
      have P5 := Lib.hid hP5
      have F5 := Lib.hid (F4.out.trans hO.out.2)
      have gq : ∀ q ∈ [g], q < w.heap.size := fun q hq => by rw [List.mem_singleton.1 hq]; exact GL.out
      have Z5 := Lib.hid (ownR_frms Z4.out hO.out.2 (fun q hq => .inl (gq q hq)))
      have Q5 := Lib.hid (ownR_frms Q4.out hO.out.2 (fun q hq => .inl (Nat.lt_of_lt_of_le (gq q hq) D1.out.size)))
      clear hP5 ho5 hO gq
      go_wp2_with (go_at_call 31; go_must (refine (values_any _ g { s with cl := o5 } _ _ _ connW P5.out HH.out).mono ?_; rintro e w7 ⟨v, rfl, ho_, hb⟩; rw [show valuesP ({ s with cl := o5 } : PS).hs connW = _ from HCN.out, NC.out] at ho_; obtain ⟨AE, cE, hv_, _, _⟩ := ownR_form ho_; subst hv_; have OE7 := Lib.hid ho_; have HP7 := Lib.hid (P5.out.below hb); have F7 := Lib.hid (F5.out.trans (Frm.of_below hb)); have G7 : Hid (g < wr.heap.size) := lt_of_heap P5.out.row; have Z7 := Lib.hid (ownR_below Z5.out hb); have Q7 := Lib.hid (ownR_below Q5.out hb); clear ho_ hb))
      go_loopw [62] (fun i wr => ∃ j : Nat, j ≤ k ∧ i = .int .i64 (j : Int) ∧ Hid (Par wr g { s with cl := closeC o5 (cn.take j) } W H B ∧ Frm [g] w7 wr)) (fun i _ => k - (intOf i).toNat)
      case atStart => exact ⟨0, Nat.zero_le _, rfl, by show Par w7 g { s with cl := (o5 || false) } W H B; rw [Bool.or_false]; exact HP7.out, Frm.refl _ _⟩
      case round =>
        obtain ⟨j, hj, rfl, hO⟩ := hrel
        by_cases hlt : j < k
        · have hlt' : (j : Int) < (k : Int) := by omega
          have hk0 : (0 : Int) ≤ (j : Int) := by omega
          have hkc : j < cn.length := by rw [NC.out]; exact hlt
          have OEr := ownR_frms OE7.out hO.out.2 (fun q hq => .inl (by rw [List.mem_singleton.1 hq]; exact G7.out))
          obtain ⟨bE, hAE, cc⟩ := StrL.at_ (l := cn) (by show World.ownsRow _ _ _ _ _ _ _; rw [NC.out]; exact OEr) NC.out j hkc
          subst hAE
          have SU := Lib.hid (closeC_succ o5 cn j hkc)
          obtain ⟨x, hx⟩ : ∃ x, x = cn[j] := ⟨_, rfl⟩
          rw [← hx] at cc SU
          have HX : Hid (x.length ≤ 140737488355328 ∧ ∀ b ∈ x, b.toNat < 128) := by
            have hm : x ∈ valuesP s.hs connW := by rw [HCN.out, hx]; exact List.getElem_mem hkc
            unfold valuesP at hm
            obtain ⟨p, hp, rfl⟩ := List.mem_map.1 hm
            exact HV.out p (List.mem_filter.1 hp).1
          obtain ⟨y, hy⟩ : ∃ y, y = Lib.toLowerA x := ⟨_, rfl⟩
          have HY := Lib.hid hy
          have HK := Lib.hid hlt
          have f8 := hO.out.1.fz 8
          have e8 := hO.out.1.at_.2.2.2.2.2.2.2.2.1
          clear hx hy OEr
          cases hb8 : closeC o5 (cn.take j)
          · have SU2 : Hid (closeC o5 (cn.take (j + 1)) = (y == [99, 108, 111, 115, 101])) := by show _ = _; rw [SU.out, hb8, Bool.false_or]; show (Lib.toLowerA x == closeW) = _; rw [← HY.out]; rfl
            have hPb := hO.out.1
            rw [hb8] at hPb e8
            have HPb := Lib.hid hPb
            clear hPb
            go_wp2_with (go_at_call 27; go_must (refine (lower_any x HX.out.1 HX.out.2 wr).mono ?_; rintro e w8 ⟨rfl, hb⟩; rw [← HY.out]; have P8 := HPb.out.below hb; have e8' := P8.at_.2.2.2.2.2.2.2.2.1; have f8' := P8.fz 8; have S8' := P8.set (s' := { s with cl := (y == [99, 108, 111, 115, 101]) }) 8 (.bool (y == [99, 108, 111, 115, 101])) rfl rfl rfl rfl; have FG : Frm [g] w7 (w8.setCell ⟨g, 8, none⟩ (.bool (y == [99, 108, 111, 115, 101]))) := (hO.out.2.trans (Frm.of_below hb)).trans (Frm.setCell w8 g 8 _); have GG := Lib.hid (And.intro S8'.1 FG); clear hb P8 S8' FG))
            go_roundw
            case rel => exact ⟨j + 1, HK.out, by go_num, by rw [SU2.out]; exact GG.out.1, GG.out.2⟩
            case measure => simp [intOf]; omega
          · have SU2 : Hid (closeC o5 (cn.take (j + 1)) = true) := by show _ = _; rw [SU.out, hb8]; rfl
            have hPb := hO.out.1
            rw [hb8] at hPb e8
            have S8' := hPb.set (s' := { s with cl := true }) 8 (.bool true) rfl rfl rfl rfl
            have GG := Lib.hid (And.intro S8'.1 (hO.out.2.trans (Frm.setCell wr g 8 (.bool true))))
            clear hPb S8'
            go_wp2
            go_roundw
            case rel => exact ⟨j + 1, HK.out, by go_num, by rw [SU2.out]; exact GG.out.1, GG.out.2⟩
            case measure => simp [intOf]; omega
        · obtain rfl : j = k := by omega
          have hP9 := hO.out.1
          rw [show cn.take j = cn from by rw [← NC.out, List.take_length], HO5.out] at hP9
          have gq : ∀ q ∈ [g], q < w.heap.size := fun q hq => by rw [List.mem_singleton.1 hq]; exact GL.out
          have P9 := Lib.hid hP9
          have F9 := Lib.hid (F7.out.trans hO.out.2)
          have S9 : Hid (PStep g W H B w W H B wr) := ⟨F9.out.more (by simp [PL]), fun _ h => .inl h⟩
          have Z9 := Lib.hid (ownR_frms Z7.out hO.out.2 (fun q hq => .inl (gq q hq)))
          have Q9 := Lib.hid (ownR_frms Q7.out hO.out.2 (fun q hq => .inl (Nat.lt_of_lt_of_le (gq q hq) D1.out.size)))
          clear hP9 hO gq
          go_wp2
          go_loopw [83] (fun i wr => i = .int .i64 0 ∧ Hid (Par wr g { s with cl := closeC (keepC true cn) cn } W H B ∧ PStep g W H B w W H B wr ∧ wr.ownsRow w1.heap.size 9 1 (.slice AOQ 0 cOQ) 0 (strsV q) ∧ wr.ownsRow w.heap.size 9 1 (.slice AOZ 1 cOZ) 1 (strsV z))) (fun _ _ => 0)
          case atStart => exact ⟨rfl, P9.out, S9.out, Q9.out, Z9.out⟩
          case round =>
            obtain ⟨rfl, hR3⟩ := hrel
            go_wp2
            go_loopw [96] (fun i wr => (i = .int .i64 0 ∧ Hid (Par wr g { s with cl := closeC (keepC true cn) cn } W H B ∧ PStep g W H B w W H B wr ∧ wr.ownsRow w1.heap.size 9 1 (.slice AOQ 0 cOQ) 0 (strsV q) ∧ wr.ownsRow w.heap.size 9 1 (.slice AOZ 1 cOZ) 1 (strsV z))) ∨ (i = .int .i64 1 ∧ Hid (Par wr g { s with cl := closeC (keepC true cn) cn, lf := (numD v : Int) } W H B ∧ PStep g W H B w W H B wr ∧ badSize v = false ∧ ¬ 4096 < numD v))) (fun i _ => 1 - (intOf i).toNat)
            case atStart => exact .inl ⟨rfl, hR3⟩
            case round =>
              rcases hrel with ⟨rfl, hR⟩ | ⟨rfl, hR⟩
              · obtain ⟨bZ, hAZ, cc⟩ := StrL.at_ (l := [v]) (by show World.ownsRow _ _ _ _ _ _ _; rw [← HZ1.out, NZ.out]; exact hR.out.2.2.2) rfl 0 (by simp)
                subst hAZ
                have cc' : wr.cell? ⟨bZ, 0, none⟩ = some (.string ⟨v.toArray⟩) := cc
                have hsz : (ByteArray.mk v.toArray).size = v.length := by simp [ByteArray.size]
                obtain ⟨sv, hsv⟩ : ∃ sv : ByteArray, sv = ⟨v.toArray⟩ := ⟨_, rfl⟩
                rw [← hsv] at cc' hsz
                have HSV := Lib.hid hsv
                clear cc hsv
                have HSO := Lib.hid (size_ok HBS.out)
                have l1 : 1 ≤ sv.size := by rw [hsz]; exact HSO.out.2.2.2.1
                have l1I : decide ((sv.size : Int) < 1) = false := by simp; omega
                have l9 : ¬ 9 < sv.size := by rw [hsz]; have := HSO.out.2.2.1; omega
                have l9I : decide ((9 : Int) < (sv.size : Int)) = false := by simp; omega
                obtain ⟨tv, htv⟩ : ∃ tv, tv = Lib.trimS v digW := ⟨_, rfl⟩
                have HTV : Hid (Lib.trimS v digW = tv) := htv.symm
                have htn : (tv == []) = true := by rw [htv, HSO.out.2.2.2.2]; rfl
                clear htv
                obtain ⟨N, hN⟩ : ∃ N : Nat, N = numD v := ⟨_, rfl⟩
                have HN := Lib.hid hN
                have hgI : decide ((4096 : Int) < (N : Int)) = true := by rw [hN]; have := HGT.out; simp; omega
                clear hN
                go_wp2_with (first
                  | (go_at_call 30; go_must (rw [HSV.out]; refine (trim_any v ⟨#[48, 49, 50, 51, 52, 53, 54, 55, 56, 57]⟩ HVV.out.1 (by decide) (Go.Proofs.ascii_of_all (by decide)) wr).mono ?_; rintro e w8 ⟨rfl, hb⟩; rw [show Lib.trimS v ((⟨#[48, 49, 50, 51, 52, 53, 54, 55, 56, 57]⟩ : ByteArray).data.toList) = _ from HTV.out]; have GG := Lib.hid (And.intro (hR.out.1.below hb) (hR.out.2.1.trans (PStep.of_below hb))); clear hb))
                  | (go_at_call 32; go_must (refine (atoi_any v HBS.out w8).mono ?_; rintro e w9 ⟨rfl, hb⟩; rw [← HN.out]; have PA := GG.out.1.below hb; have eA := PA.at_.2.2.2.2.2.2.2.2.2.2; have fA := PA.fz 10; have SA := PA.set (s' := { s with cl := closeC (keepC true cn) cn, lf := (N : Int) }) 10 (.int .i64 (N : Int)) rfl rfl rfl rfl; have eB := SA.1.at_.2.2.2.2.2.2.2.2.2.2; have G2 := Lib.hid (And.intro SA.1 ((GG.out.2.trans (PStep.of_below hb)).trans SA.2)); clear hb PA SA)))
                go_ret
                exact ⟨rfl, W, H, B, by rw [← HN.out]; exact G2.out.1, G2.out.2⟩
              · exfalso
                have := hR.out.2.2
                exact this.2 HGT.out
set_option maxRecDepth 100000 in
set_option maxHeartbeats 4000000 in
theorem whM1ze (w : World) (g : Nat) (s : PS) (W H B : Value) (P : Par w g s W H B) (hh : s.hs.length ≤ 1000000000) (hv : ∀ p ∈ s.hs, p.2.length ≤ 140737488355328 ∧ ∀ b ∈ p.2, b.toNat < 128) (z q ho cn : List (List UInt8)) (hz : valuesP s.hs clW = z) (hq : valuesP s.hs teW = q) (hho : valuesP s.hs hostW = ho) (hcn : valuesP s.hs connW = cn) (hold : s.old = true) (v : List UInt8) (hq1 : q = []) (hz1 : z = [v]) (hbs : badSize v = false) (hgt4 : ¬ 4096 < numD v) : Calls Tryd.prog 22 #[.pointer (some ⟨g, 0, none⟩)] w (PPost g W H B w (({ s with cl := closeC (keepC true cn) cn, lf := (numD v : Int) }, (0 : Int))).1 (.int .i64 (({ s with cl := closeC (keepC true cn) cn, lf := (numD v : Int) }, (0 : Int))).2)) := by
  have HP := Lib.hid P
  have HH := Lib.hid hh
  have HV := Lib.hid hv
  have HZ := Lib.hid hz
  have HQ := Lib.hid hq
  have HHO := Lib.hid hho
  have HCN := Lib.hid hcn
  have GL : Hid (g < w.heap.size) := lt_of_heap P.row
  have e9 := P.at_.2.2.2.2.2.2.2.2.2.1
  rw [hold] at e9
  have HOLD := Lib.hid hold
  obtain ⟨nz, hnz⟩ : ∃ n, n = z.length := ⟨_, rfl⟩
  obtain ⟨nq, hnq⟩ : ∃ n, n = q.length := ⟨_, rfl⟩
  obtain ⟨nh, hnh⟩ : ∃ n, n = ho.length := ⟨_, rfl⟩
  obtain ⟨nc, hnc⟩ : ∃ n, n = cn.length := ⟨_, rfl⟩
  have NZ := Lib.hid hnz.symm
  have NQ := Lib.hid hnq.symm
  have NH := Lib.hid hnh.symm
  have NC := Lib.hid hnc.symm
  have bz : (nz : Int) ≤ 1000000000 := by rw [hnz, ← hz]; have := valuesP_le s.hs clW; omega
  have bq : (nq : Int) ≤ 1000000000 := by rw [hnq, ← hq]; have := valuesP_le s.hs teW; omega
  have bc : (nc : Int) ≤ 1000000000 := by rw [hnc, ← hcn]; have := valuesP_le s.hs connW; omega
  have z0 : (0 : Int) ≤ (nz : Int) := by omega
  have q0 : (0 : Int) ≤ (nq : Int) := by omega
  have h2 : nq = 0 := by rw [hnq, hq1]; rfl
  have h3 : nz = 1 := by rw [hnz, hz1]; rfl
  subst h2 h3
  have HQ1 := Lib.hid hq1
  have HZ1 := Lib.hid hz1
  have hvv : v.length ≤ 140737488355328 ∧ ∀ b ∈ v, b.toNat < 128 := by
    have hm : v ∈ valuesP s.hs clW := by rw [hz, hz1]; simp
    unfold valuesP at hm
    obtain ⟨p, hp, rfl⟩ := List.mem_map.1 hm
    exact hv p (List.mem_filter.1 hp).1
  have HVV := Lib.hid hvv
  clear hvv
  have HBS := Lib.hid hbs
  have HGT := Lib.hid hgt4
  have HP0 := Lib.hid P
  have D0 : Hid (Below w.heap.size w w) := Below.refl _ _
  have T0 : Hid True := trivial
  clear P hh hv hz hq hho hcn hold hnz hnq hnh hnc
  clear hq1 hz1 hbs hgt4
  go_enter Tryd.func22, Tryd.ntmps22
  go_wp2_with (first
    | (go_at_call 31; have hx_ := T2; go_must (refine (values_any _ g { s with cl := true } _ _ _ connW S8.out.1 HH.out).mono ?_; rintro e w4 ⟨v, rfl, ho_, hb⟩; rw [show valuesP ({ s with cl := true } : PS).hs connW = _ from HCN.out, NC.out] at ho_; obtain ⟨AC, cC, hv_, _, _⟩ := ownR_form ho_; subst hv_; have OC4 := Lib.hid ho_; have HP4 := Lib.hid (S8.out.1.below hb); have M4 : Hid (Frm [g] w2 w4) := (Frm.setCell _ _ _ _).trans (Frm.of_below hb); have F4 : Hid (Frm [g] w w4) := (Frm.of_below D2.out).trans M4.out; have Z4 := Lib.hid (ownR_frms OZ2.out M4.out (fun q hq => .inl (by rw [List.mem_singleton.1 hq]; have h_ := GL.out; have h2_ := D2.out.size; omega))); have Q4 := Lib.hid (ownR_frms OQ2.out M4.out (fun q hq => .inl (by rw [List.mem_singleton.1 hq]; have h_ := GL.out; have h2_ := D1.out.size; omega))); have G4 : Hid (g < (w2.setCell ⟨g, 8, none⟩ (.bool true)).heap.size) := lt_of_heap S8.out.1.row; have TC := hx_; clear T2 hx_ ho_ hb e8 e9_ f8))
    | (go_at_call 31; have hx_ := T1; go_must (refine (values_any _ g s _ _ _ teW HP1.out HH.out).mono ?_; rintro e w2 ⟨v, rfl, ho_, hb⟩; rw [show valuesP (s).hs teW = _ from HQ.out, NQ.out] at ho_; obtain ⟨AOQ, cOQ, hv_, _, _⟩ := ownR_form ho_; subst hv_; have OQ2 := Lib.hid ho_; have OZ2 := Lib.hid (ownR_below OZ1.out hb); have HP2 := Lib.hid (Par.below HP1.out hb); have n9_2 := HP2.out.at_.2.2.2.2.2.2.2.2.2.1; rw [show (s : PS).old = _ from HOLD.out] at n9_2; have D2 := Lib.hid (D1.out.trans (hb.mono D1.out.size)); have T2 := hx_; have a_ := HP2.out.at_; obtain ⟨_, _, _, _, _, _, _, _, e8, e9_, _⟩ := a_; rw [HOLD.out] at e9_; have f8 := HP2.out.fz 8; have S8 := Lib.hid (HP2.out.set (s' := { s with cl := true }) 8 (.bool true) rfl rfl rfl rfl); clear T1 hx_ ho_ hb))
    | (go_at_call 31; have hx_ := T0; go_must (refine (values_any _ g s _ _ _ clW HP0.out HH.out).mono ?_; rintro e w1 ⟨v, rfl, ho_, hb⟩; rw [show valuesP (s).hs clW = _ from HZ.out, NZ.out] at ho_; obtain ⟨AOZ, cOZ, hv_, _, _⟩ := ownR_form ho_; subst hv_; have OZ1 := Lib.hid ho_; have HP1 := Lib.hid (Par.below HP0.out hb); have n9_1 := HP1.out.at_.2.2.2.2.2.2.2.2.2.1; rw [show (s : PS).old = _ from HOLD.out] at n9_1; have D1 := Lib.hid (D0.out.trans (hb.mono D0.out.size)); have T1 := hx_; clear T0 hx_ ho_ hb)))
  obtain ⟨G, hG⟩ : ∃ G, G = (w2.setCell ⟨g, 8, none⟩ (.bool true)).heap.size := ⟨_, rfl⟩
  rw [← hG] at OC4 G4
  clear hG
  go_loopw [47] (fun i wr => ∃ k : Nat, k ≤ nc ∧ i = .int .i64 (k : Int) ∧ Hid (Par wr g { s with cl := keepC true (cn.take k) } W H B ∧ Frm [g] w4 wr)) (fun i _ => nc - (intOf i).toNat)
  case atStart => exact ⟨0, Nat.zero_le _, rfl, HP4.out, Frm.refl _ _⟩
  case round =>
    obtain ⟨k, hk, rfl, hO⟩ := hrel
    by_cases hlt : k < nc
    · have hlt' : (k : Int) < (nc : Int) := by omega
      have hk0 : (0 : Int) ≤ (k : Int) := by omega
      have hkc : k < cn.length := by rw [NC.out]; exact hlt
      have OCr := ownR_frms OC4.out hO.out.2 (fun q hq => .inl (by rw [List.mem_singleton.1 hq]; exact G4.out))
      obtain ⟨bC, hAC, cc⟩ := StrL.at_ (l := cn) (by show World.ownsRow _ _ _ _ _ _ _; rw [NC.out]; exact OCr) NC.out k hkc
      subst hAC
      have SU := Lib.hid (keepC_succ true cn k hkc)
      obtain ⟨x, hx⟩ : ∃ x, x = cn[k] := ⟨_, rfl⟩
      rw [← hx] at cc SU
      have HX : Hid (x.length ≤ 140737488355328 ∧ ∀ b ∈ x, b.toNat < 128) := by
        have hm : x ∈ valuesP s.hs connW := by rw [HCN.out, hx]; exact List.getElem_mem hkc
        unfold valuesP at hm
        obtain ⟨p, hp, rfl⟩ := List.mem_map.1 hm
        exact HV.out p (List.mem_filter.1 hp).1
      obtain ⟨y, hy⟩ : ∃ y, y = Lib.toLowerA x := ⟨_, rfl⟩
      have HY := Lib.hid hy
      have HK := Lib.hid hlt
      clear hx hy OCr
      cases hq1 : (y == [107, 101, 101, 112, 45, 97, 108, 105, 118, 101])
      · have SU2 : Hid (keepC true (cn.take (k + 1)) = keepC true (cn.take k)) := by show _ = _; have h_ : lowIs keepW x = false := (by show (Lib.toLowerA x == [107, 101, 101, 112, 45, 97, 108, 105, 118, 101]) = false; rw [← HY.out]; exact hq1); rw [SU.out, h_]; rfl
        go_wp2_with (go_at_call 27; go_must (refine (lower_any x HX.out.1 HX.out.2 wr).mono ?_; rintro e w6 ⟨rfl, hb⟩; rw [← HY.out]; have GG := Lib.hid (And.intro (hO.out.1.below hb) (hO.out.2.trans (Frm.of_below hb))); clear hb))
        go_roundw
        case rel => exact ⟨k + 1, HK.out, by go_num, by rw [SU2.out]; exact GG.out.1, GG.out.2⟩
        case measure => simp [intOf]; omega
      · have SU2 : Hid (keepC true (cn.take (k + 1)) = false) := by show _ = _; have h_ : lowIs keepW x = true := (by show (Lib.toLowerA x == [107, 101, 101, 112, 45, 97, 108, 105, 118, 101]) = true; rw [← HY.out]; exact hq1); rw [SU.out, h_]; rfl
        go_wp2_with (go_at_call 27; go_must (refine (lower_any x HX.out.1 HX.out.2 wr).mono ?_; rintro e w6 ⟨rfl, hb⟩; rw [← HY.out]; have P6 := hO.out.1.below hb; have e8 := P6.at_.2.2.2.2.2.2.2.2.1; have f8 := P6.fz 8; have S6 := P6.set (s' := { s with cl := false }) 8 (.bool false) rfl rfl rfl rfl; have FG : Frm [g] w4 (w6.setCell ⟨g, 8, none⟩ (.bool false)) := (hO.out.2.trans (Frm.of_below hb)).trans (Frm.setCell w6 g 8 (.bool false)); have GG := Lib.hid (And.intro S6.1 FG); clear hb P6 S6 FG))
        go_roundw
        case rel => exact ⟨k + 1, HK.out, by go_num, by rw [SU2.out]; exact GG.out.1, GG.out.2⟩
        case measure => simp [intOf]; omega
    · obtain rfl : k = nc := by omega
      have hP5 := hO.out.1
      rw [show cn.take k = cn from by rw [← NC.out, List.take_length]] at hP5
      obtain ⟨o5, ho5⟩ : ∃ b : Bool, b = keepC true cn := ⟨_, rfl⟩
      rw [← ho5] at hP5
      have HO5 := Lib.hid ho5
      have P5 := Lib.hid hP5
      have F5 := Lib.hid (F4.out.trans hO.out.2)
      have gq : ∀ q ∈ [g], q < w.heap.size := fun q hq => by rw [List.mem_singleton.1 hq]; exact GL.out
      have Z5 := Lib.hid (ownR_frms Z4.out hO.out.2 (fun q hq => .inl (gq q hq)))
      have Q5 := Lib.hid (ownR_frms Q4.out hO.out.2 (fun q hq => .inl (Nat.lt_of_lt_of_le (gq q hq) D1.out.size)))
      clear hP5 ho5 hO gq
      go_wp2_with (go_at_call 31; go_must (refine (values_any _ g { s with cl := o5 } _ _ _ connW P5.out HH.out).mono ?_; rintro e w7 ⟨v, rfl, ho_, hb⟩; rw [show valuesP ({ s with cl := o5 } : PS).hs connW = _ from HCN.out, NC.out] at ho_; obtain ⟨AE, cE, hv_, _, _⟩ := ownR_form ho_; subst hv_; have OE7 := Lib.hid ho_; have HP7 := Lib.hid (P5.out.below hb); have F7 := Lib.hid (F5.out.trans (Frm.of_below hb)); have G7 : Hid (g < wr.heap.size) := lt_of_heap P5.out.row; have Z7 := Lib.hid (ownR_below Z5.out hb); have Q7 := Lib.hid (ownR_below Q5.out hb); clear ho_ hb))
      go_loopw [62] (fun i wr => ∃ j : Nat, j ≤ k ∧ i = .int .i64 (j : Int) ∧ Hid (Par wr g { s with cl := closeC o5 (cn.take j) } W H B ∧ Frm [g] w7 wr)) (fun i _ => k - (intOf i).toNat)
      case atStart => exact ⟨0, Nat.zero_le _, rfl, by show Par w7 g { s with cl := (o5 || false) } W H B; rw [Bool.or_false]; exact HP7.out, Frm.refl _ _⟩
      case round =>
        obtain ⟨j, hj, rfl, hO⟩ := hrel
        by_cases hlt : j < k
        · have hlt' : (j : Int) < (k : Int) := by omega
          have hk0 : (0 : Int) ≤ (j : Int) := by omega
          have hkc : j < cn.length := by rw [NC.out]; exact hlt
          have OEr := ownR_frms OE7.out hO.out.2 (fun q hq => .inl (by rw [List.mem_singleton.1 hq]; exact G7.out))
          obtain ⟨bE, hAE, cc⟩ := StrL.at_ (l := cn) (by show World.ownsRow _ _ _ _ _ _ _; rw [NC.out]; exact OEr) NC.out j hkc
          subst hAE
          have SU := Lib.hid (closeC_succ o5 cn j hkc)
          obtain ⟨x, hx⟩ : ∃ x, x = cn[j] := ⟨_, rfl⟩
          rw [← hx] at cc SU
          have HX : Hid (x.length ≤ 140737488355328 ∧ ∀ b ∈ x, b.toNat < 128) := by
            have hm : x ∈ valuesP s.hs connW := by rw [HCN.out, hx]; exact List.getElem_mem hkc
            unfold valuesP at hm
            obtain ⟨p, hp, rfl⟩ := List.mem_map.1 hm
            exact HV.out p (List.mem_filter.1 hp).1
          obtain ⟨y, hy⟩ : ∃ y, y = Lib.toLowerA x := ⟨_, rfl⟩
          have HY := Lib.hid hy
          have HK := Lib.hid hlt
          have f8 := hO.out.1.fz 8
          have e8 := hO.out.1.at_.2.2.2.2.2.2.2.2.1
          clear hx hy OEr
          cases hb8 : closeC o5 (cn.take j)
          · have SU2 : Hid (closeC o5 (cn.take (j + 1)) = (y == [99, 108, 111, 115, 101])) := by show _ = _; rw [SU.out, hb8, Bool.false_or]; show (Lib.toLowerA x == closeW) = _; rw [← HY.out]; rfl
            have hPb := hO.out.1
            rw [hb8] at hPb e8
            have HPb := Lib.hid hPb
            clear hPb
            go_wp2_with (go_at_call 27; go_must (refine (lower_any x HX.out.1 HX.out.2 wr).mono ?_; rintro e w8 ⟨rfl, hb⟩; rw [← HY.out]; have P8 := HPb.out.below hb; have e8' := P8.at_.2.2.2.2.2.2.2.2.1; have f8' := P8.fz 8; have S8' := P8.set (s' := { s with cl := (y == [99, 108, 111, 115, 101]) }) 8 (.bool (y == [99, 108, 111, 115, 101])) rfl rfl rfl rfl; have FG : Frm [g] w7 (w8.setCell ⟨g, 8, none⟩ (.bool (y == [99, 108, 111, 115, 101]))) := (hO.out.2.trans (Frm.of_below hb)).trans (Frm.setCell w8 g 8 _); have GG := Lib.hid (And.intro S8'.1 FG); clear hb P8 S8' FG))
            go_roundw
            case rel => exact ⟨j + 1, HK.out, by go_num, by rw [SU2.out]; exact GG.out.1, GG.out.2⟩
            case measure => simp [intOf]; omega
          · have SU2 : Hid (closeC o5 (cn.take (j + 1)) = true) := by show _ = _; rw [SU.out, hb8]; rfl
            have hPb := hO.out.1
            rw [hb8] at hPb e8
            have S8' := hPb.set (s' := { s with cl := true }) 8 (.bool true) rfl rfl rfl rfl
            have GG := Lib.hid (And.intro S8'.1 (hO.out.2.trans (Frm.setCell wr g 8 (.bool true))))
            clear hPb S8'
            go_wp2
            go_roundw
            case rel => exact ⟨j + 1, HK.out, by go_num, by rw [SU2.out]; exact GG.out.1, GG.out.2⟩
            case measure => simp [intOf]; omega
        · obtain rfl : j = k := by omega
          have hP9 := hO.out.1
          rw [show cn.take j = cn from by rw [← NC.out, List.take_length], HO5.out] at hP9
          have gq : ∀ q ∈ [g], q < w.heap.size := fun q hq => by rw [List.mem_singleton.1 hq]; exact GL.out
          have P9 := Lib.hid hP9
          have F9 := Lib.hid (F7.out.trans hO.out.2)
          have S9 : Hid (PStep g W H B w W H B wr) := ⟨F9.out.more (by simp [PL]), fun _ h => .inl h⟩
          have Z9 := Lib.hid (ownR_frms Z7.out hO.out.2 (fun q hq => .inl (gq q hq)))
          have Q9 := Lib.hid (ownR_frms Q7.out hO.out.2 (fun q hq => .inl (Nat.lt_of_lt_of_le (gq q hq) D1.out.size)))
          clear hP9 hO gq
          go_wp2
          go_loopw [83] (fun i wr => i = .int .i64 0 ∧ Hid (Par wr g { s with cl := closeC (keepC true cn) cn } W H B ∧ PStep g W H B w W H B wr ∧ wr.ownsRow w1.heap.size 9 1 (.slice AOQ 0 cOQ) 0 (strsV q) ∧ wr.ownsRow w.heap.size 9 1 (.slice AOZ 1 cOZ) 1 (strsV z))) (fun _ _ => 0)
          case atStart => exact ⟨rfl, P9.out, S9.out, Q9.out, Z9.out⟩
          case round =>
            obtain ⟨rfl, hR3⟩ := hrel
            go_wp2
            go_loopw [96] (fun i wr => (i = .int .i64 0 ∧ Hid (Par wr g { s with cl := closeC (keepC true cn) cn } W H B ∧ PStep g W H B w W H B wr ∧ wr.ownsRow w1.heap.size 9 1 (.slice AOQ 0 cOQ) 0 (strsV q) ∧ wr.ownsRow w.heap.size 9 1 (.slice AOZ 1 cOZ) 1 (strsV z))) ∨ (i = .int .i64 1 ∧ Hid (Par wr g { s with cl := closeC (keepC true cn) cn, lf := (numD v : Int) } W H B ∧ PStep g W H B w W H B wr ∧ badSize v = false ∧ ¬ 4096 < numD v))) (fun i _ => 1 - (intOf i).toNat)
            case atStart => exact .inl ⟨rfl, hR3⟩
            case round =>
              rcases hrel with ⟨rfl, hR⟩ | ⟨rfl, hR⟩
              · obtain ⟨bZ, hAZ, cc⟩ := StrL.at_ (l := [v]) (by show World.ownsRow _ _ _ _ _ _ _; rw [← HZ1.out, NZ.out]; exact hR.out.2.2.2) rfl 0 (by simp)
                subst hAZ
                have cc' : wr.cell? ⟨bZ, 0, none⟩ = some (.string ⟨v.toArray⟩) := cc
                have hsz : (ByteArray.mk v.toArray).size = v.length := by simp [ByteArray.size]
                obtain ⟨sv, hsv⟩ : ∃ sv : ByteArray, sv = ⟨v.toArray⟩ := ⟨_, rfl⟩
                rw [← hsv] at cc' hsz
                have HSV := Lib.hid hsv
                clear cc hsv
                have HSO := Lib.hid (size_ok HBS.out)
                have l1 : 1 ≤ sv.size := by rw [hsz]; exact HSO.out.2.2.2.1
                have l1I : decide ((sv.size : Int) < 1) = false := by simp; omega
                have l9 : ¬ 9 < sv.size := by rw [hsz]; have := HSO.out.2.2.1; omega
                have l9I : decide ((9 : Int) < (sv.size : Int)) = false := by simp; omega
                obtain ⟨tv, htv⟩ : ∃ tv, tv = Lib.trimS v digW := ⟨_, rfl⟩
                have HTV : Hid (Lib.trimS v digW = tv) := htv.symm
                have htn : (tv == []) = true := by rw [htv, HSO.out.2.2.2.2]; rfl
                clear htv
                obtain ⟨N, hN⟩ : ∃ N : Nat, N = numD v := ⟨_, rfl⟩
                have HN := Lib.hid hN
                have hgI : decide ((4096 : Int) < (N : Int)) = false := by rw [hN]; have := HGT.out; simp; omega
                clear hN
                go_wp2_with (first
                  | (go_at_call 30; go_must (rw [HSV.out]; refine (trim_any v ⟨#[48, 49, 50, 51, 52, 53, 54, 55, 56, 57]⟩ HVV.out.1 (by decide) (Go.Proofs.ascii_of_all (by decide)) wr).mono ?_; rintro e w8 ⟨rfl, hb⟩; rw [show Lib.trimS v ((⟨#[48, 49, 50, 51, 52, 53, 54, 55, 56, 57]⟩ : ByteArray).data.toList) = _ from HTV.out]; have GG := Lib.hid (And.intro (hR.out.1.below hb) (hR.out.2.1.trans (PStep.of_below hb))); clear hb))
                  | (go_at_call 32; go_must (refine (atoi_any v HBS.out w8).mono ?_; rintro e w9 ⟨rfl, hb⟩; rw [← HN.out]; have PA := GG.out.1.below hb; have eA := PA.at_.2.2.2.2.2.2.2.2.2.2; have fA := PA.fz 10; have SA := PA.set (s' := { s with cl := closeC (keepC true cn) cn, lf := (N : Int) }) 10 (.int .i64 (N : Int)) rfl rfl rfl rfl; have eB := SA.1.at_.2.2.2.2.2.2.2.2.2.2; have G2 := Lib.hid (And.intro SA.1 ((GG.out.2.trans (PStep.of_below hb)).trans SA.2)); clear hb PA SA)))
                go_roundw
                case rel => exact .inr ⟨by go_num, by rw [← HN.out]; exact G2.out.1, G2.out.2, HBS.out, HGT.out⟩
                case measure => simp [intOf]
              · go_wp2
                go_ret
                exact ⟨rfl, W, H, B, hR.out.1, hR.out.2.1⟩
end Go.Proofs.YtjichadkonlfpaaDoor
