/- The texts K6 of this work, merged by wip/merge.py. No conditions. -/
import Derived.Test.YtjichadkonlfpaaDoorQKA
import Derived.Test.YtjichadkonlfpaaDoorQHA
namespace Go.Proofs.YtjichadkonlfpaaDoor
open Go.RowKit
set_option maxRecDepth 100000 in
set_option maxHeartbeats 2000000 in
theorem wireN101p (m : MadeV) (A : Option Addr) (c : Nat) (w : World) (hp : m.path < 65536) (hr : Reads w w.heap.size 1 A m.body.length (bvs m.body)) (hcap : m.body.length ≤ c) (hl : m.body.length ≤ 140737488351232) (hpost : m.post = true) (hchd : m.chd = false) (hbig : m.body.length ≤ 4096) (_ : 0 < m.body.length) :
    Calls Tryd.prog 8 #[.agg #[.int .u16 (m.path : Int), .slice A m.body.length c, .int .u8 (m.ch.toNat : Int), .bool false, .bool true]] w (RPost (wireP m) w) := by
  have HR := Lib.hid hr
  have HL := Lib.hid hl
  obtain ⟨n0, hn0⟩ : ∃ n, n = m.body.length := ⟨_, rfl⟩
  rw [← hn0] at HR ⊢
  have HN0 := Lib.hid hn0
  have gb : decide ((4096 : Int) < (n0 : Int)) = false := by simp; omega
  have gc : (n0 : Int) ≤ (c : Int) := by omega
  have hnb : m.bd.length = n0 := by unfold MadeV.bd; rw [List.length_take]; omega
  have RB : Hid (Reads w w.heap.size 1 A n0 (bvs m.bd)) := by
    show Reads _ _ _ _ _ _
    have h1 := HR.out.take (k := n0) (by omega)
    rw [Nat.mul_one] at h1
    rw [show bvs m.bd = (bvs m.body).take n0 from by unfold MadeV.bd; rw [List.take_of_length_le (by omega), List.take_of_length_le (by rw [bvs_length]; omega)]]
    exact h1
  have HNB := Lib.hid hnb
  obtain ⟨pn, hpn⟩ : ∃ p, p = m.path := ⟨_, rfl⟩
  rw [← hpn] at hp ⊢
  have HPN := Lib.hid hpn
  have hpI : (pn : Int) ≤ 65535 := by omega
  obtain ⟨dv, hdv⟩ : ∃ dv : ByteArray, dv = ⟨(Lib.decDigits pn).toArray⟩ := ⟨_, rfl⟩
  have hds : dv.size = (Lib.decDigits pn).length := by rw [hdv]; simp [ByteArray.size]
  have ds20 : dv.size ≤ 20 := by rw [hds]; have := dec_len 4 pn (by omega); omega
  have HDV := Lib.hid hdv
  have t1 : ¬ (9223372036854775807 < 6 + dv.size) := by omega
  have t2 : ¬ (9223372036854775807 < 6 + dv.size + 20) := by omega
  obtain ⟨sv, hS⟩ : ∃ sv : ByteArray, (⟨#[80, 79, 83, 84]⟩ : ByteArray) ++ ⟨#[32, 47]⟩ ++ dv ++ ⟨#[32, 72, 84, 84, 80, 47, 49, 46, 49, 13, 10, 104, 111, 115, 116, 58, 32, 104, 13, 10]⟩ = sv := ⟨_, rfl⟩
  obtain ⟨P, hP⟩ : ∃ P, P = headL m := ⟨_, rfl⟩
  have hSP : sv = ⟨P.toArray⟩ := by
    rw [← hS, hdv, hP, hpn]
    unfold headL
    rw [hpost, ← bapp, ← bapp, ← bapp]
    rfl
  have hPl : P.length ≤ 50 := by
    rw [hP]
    unfold headL
    have h1 := methL_len m.post
    have h2 := dec_len 4 m.path (by omega)
    simp only [List.length_append, List.length_cons, List.length_nil, hostL]
    omega
  have sv60 : sv.size ≤ 60 := by rw [hSP]; simp [ByteArray.size]; omega
  have HSP := Lib.hid hSP
  have HPL := Lib.hid hPl
  have HP := Lib.hid hP
  have gz : decide ((0 : Int) < (n0 : Int)) = true := by simp; omega
  have gz2 : 0 < n0 := by omega
  obtain ⟨ev, hev⟩ : ∃ ev : ByteArray, ev = ⟨(Lib.decDigits m.bd.length).toArray⟩ := ⟨_, rfl⟩
  have hes : ev.size = (Lib.decDigits m.bd.length).length := by rw [hev]; simp [ByteArray.size]
  have es20 : ev.size ≤ 20 := by rw [hes]; have := dec_len 3 m.bd.length (by omega); omega
  have HEV := Lib.hid hev
  have u1 : ¬ (9223372036854775807 < sv.size + 16) := by omega
  have u2 : ¬ (9223372036854775807 < sv.size + 16 + ev.size) := by omega
  have u3 : ¬ (9223372036854775807 < sv.size + 16 + ev.size + 2) := by omega
  have u4 : ¬ (9223372036854775807 < sv.size + 16 + ev.size + 2 + 2) := by omega
  obtain ⟨zv, hZ⟩ : ∃ zv : ByteArray, sv ++ ⟨#[99, 111, 110, 116, 101, 110, 116, 45, 108, 101, 110, 103, 116, 104, 58, 32]⟩ ++ ev ++ ⟨#[13, 10]⟩ ++ ⟨#[13, 10]⟩ = zv := ⟨_, rfl⟩
  obtain ⟨Z, hZl⟩ : ∃ Z, Z = P ++ (clL ++ Lib.decDigits m.bd.length ++ [13, 10]) ++ [13, 10] := ⟨_, rfl⟩
  have hZP : zv = ⟨Z.toArray⟩ := by
    rw [← hZ, hSP, hZl, hev, ← bapp, ← bapp, ← bapp, ← bapp]
    simp only [ByteArray.append_assoc]
    rfl
  have hZn : Z.length ≤ 200 := by rw [hZl]; have := dec_len 3 m.bd.length (by omega); simp only [List.length_append, List.length_cons, List.length_nil, clL]; omega
  have RES : Hid (wireP m = Z ++ m.bd) := by
    show _ = _
    unfold wireP
    rw [if_neg (by rw [hchd]; decide), if_pos (.inr hpost), hZl, hP]
  have hDec : Hid (∀ w', Calls Tryd.prog 11 #[.int .i64 (n0 : Int)] w' fun e w'' => e = .returned (.string ev) ∧ Below w'.heap.size w' w'') := by
    intro w'
    rw [hev]
    have h1 := decimal_any m.bd.length (by omega) w'
    rw [show ((m.bd.length : Nat) : Int) = n0 from by omega] at h1
    exact h1
  have OT : Hid (∀ w2 : World, OwnT (Lib.bytesWorld w2 5 zv) w2.heap.size (.slice (some ⟨w2.heap.size, 0, none⟩) zv.size (grownCap w2 zv.size 0 5)) Z) := by
    intro w2
    rw [hZP]
    exact ownT_bytes w2 Z (by unfold maxLen; omega)
  have BW : Hid (∀ w2 : World, Below w2.heap.size w2 (Lib.bytesWorld w2 5 zv)) := by
    intro w2
    refine ⟨?_, ?_, ?_, by rw [Lib.bytesWorld_size]; omega, fun k hk => Lib.bytesWorld_at_old w2 _ _ k hk⟩
    all_goals (unfold Lib.bytesWorld World.freeze; rw [if_neg (by decide)]; rfl)
  have hconv := fun w2 => Lib.run_convert_string_bytes (P := Tryd.prog) w2 9 24 5 zv (u := .string) Tryd.underlying9 Tryd.underlying24 Tryd.underlying5
  have RL : Hid (Z.length + n0 ≤ 140737488355328) := by show _ ≤ _; omega
  have HBL : Hid (m.bd.length = n0) := by show _ = _; omega
  obtain ⟨cs, hcs⟩ : ∃ cs : Array Value, cs = #[.int .u16 (pn : Int), .slice A n0 c, .int .u8 (m.ch.toNat : Int), .bool false, .bool true] := ⟨_, rfl⟩
  have B0 : Hid (Below w.heap.size w (w.alloc (.cells cs 27))) := (Below.refl _ w).alloc (Nat.le_refl _) _
  rw [hcs] at B0
  have T0 : Hid True := trivial
  clear hcs hr hcap hl hn0 hnb hpn hdv hds hSP hPl hP hZP hZl hZn hpost hchd hbig hev hes hp
  go_enter Tryd.func8, Tryd.ntmps8
  go_wp2_with (first
    | (go_at_call 11; have hx_ := T0; go_must (refine (decimal_any pn (by omega) _).mono ?_; rintro e w1 ⟨rfl, hb⟩; rw [← HDV.out]; have q_ := heap_below (heap_alloc_new w _) hb; have k1 : w1.cell? ⟨w.heap.size, 1, none⟩ = some (.slice A n0 c) := (by rw [cell_of_row w1 w.heap.size 1 _ _ _ q_]; rfl); have k3 : w1.cell? ⟨w.heap.size, 3, none⟩ = some (.bool false) := (by rw [cell_of_row w1 w.heap.size 3 _ _ _ q_]; rfl); have k4 : w1.cell? ⟨w.heap.size, 4, none⟩ = some (.bool true) := (by rw [cell_of_row w1 w.heap.size 4 _ _ _ q_]; rfl); clear q_; have HB1 := Lib.hid (B0.out.trans (hb.mono B0.out.size)); have T1 := hx_; clear hb T0 hx_))
    | (go_at_call 11; go_must (refine (hDec.out _).mono ?_; rintro e w2 ⟨rfl, hb⟩; have HB2 := Lib.hid (HB1.out.trans (hb.mono HB1.out.size)); have HB3 := Lib.hid (HB2.out.trans ((BW.out w2).mono HB2.out.size)); clear hb))
    | (at_builtin; go_must (refine appT (l := Z) (news := m.bd) (base := w2.heap.size) (B := w.heap.size) rfl rfl rfl rfl (OT.out _) (RB.out.below HB3.out) RL.out (BW.out _).size ?_; intro v5 w5 ho hg hx; obtain ⟨g5, c5, hv5, hb5, hr5⟩ := ho.reads; subst hv5; have R5 := Lib.hid hr5; have B5 := Lib.hid (Below.grown HB3.out hg HB3.out.size (fun j hj => by cases hj; exact HB2.out.size)); clear ho hg hx hb5 hr5)))
  go_ret
  rw [RES.out]
  exact ⟨_, c5, by rw [List.length_append, HBL.out]; rfl, R5.out, B5.out⟩
set_option maxRecDepth 100000 in
set_option maxHeartbeats 2000000 in
theorem wireN101z (m : MadeV) (A : Option Addr) (c : Nat) (w : World) (hp : m.path < 65536) (hr : Reads w w.heap.size 1 A m.body.length (bvs m.body)) (_ : m.body.length ≤ c) (hl : m.body.length ≤ 140737488351232) (hpost : m.post = true) (hchd : m.chd = false) (hbig : m.body.length ≤ 4096) (hz : m.body.length = 0) :
    Calls Tryd.prog 8 #[.agg #[.int .u16 (m.path : Int), .slice A m.body.length c, .int .u8 (m.ch.toNat : Int), .bool false, .bool true]] w (RPost (wireP m) w) := by
  have HR := Lib.hid hr
  have HL := Lib.hid hl
  obtain ⟨n0, hn0⟩ : ∃ n, n = m.body.length := ⟨_, rfl⟩
  rw [← hn0] at HR ⊢
  have HN0 := Lib.hid hn0
  have gb : decide ((4096 : Int) < (n0 : Int)) = false := by simp; omega
  have gc : (n0 : Int) ≤ (c : Int) := by omega
  have hnb : m.bd.length = n0 := by unfold MadeV.bd; rw [List.length_take]; omega
  have RB : Hid (Reads w w.heap.size 1 A n0 (bvs m.bd)) := by
    show Reads _ _ _ _ _ _
    have h1 := HR.out.take (k := n0) (by omega)
    rw [Nat.mul_one] at h1
    rw [show bvs m.bd = (bvs m.body).take n0 from by unfold MadeV.bd; rw [List.take_of_length_le (by omega), List.take_of_length_le (by rw [bvs_length]; omega)]]
    exact h1
  have HNB := Lib.hid hnb
  obtain ⟨pn, hpn⟩ : ∃ p, p = m.path := ⟨_, rfl⟩
  rw [← hpn] at hp ⊢
  have HPN := Lib.hid hpn
  have hpI : (pn : Int) ≤ 65535 := by omega
  obtain ⟨dv, hdv⟩ : ∃ dv : ByteArray, dv = ⟨(Lib.decDigits pn).toArray⟩ := ⟨_, rfl⟩
  have hds : dv.size = (Lib.decDigits pn).length := by rw [hdv]; simp [ByteArray.size]
  have ds20 : dv.size ≤ 20 := by rw [hds]; have := dec_len 4 pn (by omega); omega
  have HDV := Lib.hid hdv
  have t1 : ¬ (9223372036854775807 < 6 + dv.size) := by omega
  have t2 : ¬ (9223372036854775807 < 6 + dv.size + 20) := by omega
  obtain ⟨sv, hS⟩ : ∃ sv : ByteArray, (⟨#[80, 79, 83, 84]⟩ : ByteArray) ++ ⟨#[32, 47]⟩ ++ dv ++ ⟨#[32, 72, 84, 84, 80, 47, 49, 46, 49, 13, 10, 104, 111, 115, 116, 58, 32, 104, 13, 10]⟩ = sv := ⟨_, rfl⟩
  obtain ⟨P, hP⟩ : ∃ P, P = headL m := ⟨_, rfl⟩
  have hSP : sv = ⟨P.toArray⟩ := by
    rw [← hS, hdv, hP, hpn]
    unfold headL
    rw [hpost, ← bapp, ← bapp, ← bapp]
    rfl
  have hPl : P.length ≤ 50 := by
    rw [hP]
    unfold headL
    have h1 := methL_len m.post
    have h2 := dec_len 4 m.path (by omega)
    simp only [List.length_append, List.length_cons, List.length_nil, hostL]
    omega
  have sv60 : sv.size ≤ 60 := by rw [hSP]; simp [ByteArray.size]; omega
  have HSP := Lib.hid hSP
  have HPL := Lib.hid hPl
  have HP := Lib.hid hP
  have gz : n0 = 0 := by omega
  subst gz
  obtain ⟨ev, hev⟩ : ∃ ev : ByteArray, ev = ⟨(Lib.decDigits m.bd.length).toArray⟩ := ⟨_, rfl⟩
  have hes : ev.size = (Lib.decDigits m.bd.length).length := by rw [hev]; simp [ByteArray.size]
  have es20 : ev.size ≤ 20 := by rw [hes]; have := dec_len 3 m.bd.length (by omega); omega
  have HEV := Lib.hid hev
  have u1 : ¬ (9223372036854775807 < sv.size + 16) := by omega
  have u2 : ¬ (9223372036854775807 < sv.size + 16 + ev.size) := by omega
  have u3 : ¬ (9223372036854775807 < sv.size + 16 + ev.size + 2) := by omega
  have u4 : ¬ (9223372036854775807 < sv.size + 16 + ev.size + 2 + 2) := by omega
  obtain ⟨zv, hZ⟩ : ∃ zv : ByteArray, sv ++ ⟨#[99, 111, 110, 116, 101, 110, 116, 45, 108, 101, 110, 103, 116, 104, 58, 32]⟩ ++ ev ++ ⟨#[13, 10]⟩ ++ ⟨#[13, 10]⟩ = zv := ⟨_, rfl⟩
  obtain ⟨Z, hZl⟩ : ∃ Z, Z = P ++ (clL ++ Lib.decDigits m.bd.length ++ [13, 10]) ++ [13, 10] := ⟨_, rfl⟩
  have hZP : zv = ⟨Z.toArray⟩ := by
    rw [← hZ, hSP, hZl, hev, ← bapp, ← bapp, ← bapp, ← bapp]
    simp only [ByteArray.append_assoc]
    rfl
  have hZn : Z.length ≤ 200 := by rw [hZl]; have := dec_len 3 m.bd.length (by omega); simp only [List.length_append, List.length_cons, List.length_nil, clL]; omega
  have RES : Hid (wireP m = Z ++ m.bd) := by
    show _ = _
    unfold wireP
    rw [if_neg (by rw [hchd]; decide), if_pos (.inr hpost), hZl, hP]
  have hDec : Hid (∀ w', Calls Tryd.prog 11 #[.int .i64 (0 : Int)] w' fun e w'' => e = .returned (.string ev) ∧ Below w'.heap.size w' w'') := by
    intro w'
    rw [hev]
    have h1 := decimal_any m.bd.length (by omega) w'
    rw [show ((m.bd.length : Nat) : Int) = 0 from by omega] at h1
    exact h1
  have OT : Hid (∀ w2 : World, OwnT (Lib.bytesWorld w2 5 zv) w2.heap.size (.slice (some ⟨w2.heap.size, 0, none⟩) zv.size (grownCap w2 zv.size 0 5)) Z) := by
    intro w2
    rw [hZP]
    exact ownT_bytes w2 Z (by unfold maxLen; omega)
  have BW : Hid (∀ w2 : World, Below w2.heap.size w2 (Lib.bytesWorld w2 5 zv)) := by
    intro w2
    refine ⟨?_, ?_, ?_, by rw [Lib.bytesWorld_size]; omega, fun k hk => Lib.bytesWorld_at_old w2 _ _ k hk⟩
    all_goals (unfold Lib.bytesWorld World.freeze; rw [if_neg (by decide)]; rfl)
  have hconv := fun w2 => Lib.run_convert_string_bytes (P := Tryd.prog) w2 9 24 5 zv (u := .string) Tryd.underlying9 Tryd.underlying24 Tryd.underlying5
  have RL : Hid (Z.length + 0 ≤ 140737488355328) := by show _ ≤ _; omega
  have HBL : Hid (m.bd.length = 0) := by show _ = _; omega
  obtain ⟨cs, hcs⟩ : ∃ cs : Array Value, cs = #[.int .u16 (pn : Int), .slice A 0 c, .int .u8 (m.ch.toNat : Int), .bool false, .bool true] := ⟨_, rfl⟩
  have B0 : Hid (Below w.heap.size w (w.alloc (.cells cs 27))) := (Below.refl _ w).alloc (Nat.le_refl _) _
  rw [hcs] at B0
  have T0 : Hid True := trivial
  clear hcs hr hl hn0 hnb hpn hdv hds hSP hPl hP hZP hZl hZn hpost hchd hbig hz hev hes hp
  go_enter Tryd.func8, Tryd.ntmps8
  go_wp2_with (first
    | (go_at_call 11; have hx_ := T0; go_must (refine (decimal_any pn (by omega) _).mono ?_; rintro e w1 ⟨rfl, hb⟩; rw [← HDV.out]; have q_ := heap_below (heap_alloc_new w _) hb; have k1 : w1.cell? ⟨w.heap.size, 1, none⟩ = some (.slice A 0 c) := (by rw [cell_of_row w1 w.heap.size 1 _ _ _ q_]; rfl); have k3 : w1.cell? ⟨w.heap.size, 3, none⟩ = some (.bool false) := (by rw [cell_of_row w1 w.heap.size 3 _ _ _ q_]; rfl); have k4 : w1.cell? ⟨w.heap.size, 4, none⟩ = some (.bool true) := (by rw [cell_of_row w1 w.heap.size 4 _ _ _ q_]; rfl); clear q_; have HB1 := Lib.hid (B0.out.trans (hb.mono B0.out.size)); have T1 := hx_; clear hb T0 hx_))
    | (go_at_call 11; go_must (refine (hDec.out _).mono ?_; rintro e w2 ⟨rfl, hb⟩; have HB2 := Lib.hid (HB1.out.trans (hb.mono HB1.out.size)); have HB3 := Lib.hid (HB2.out.trans ((BW.out w2).mono HB2.out.size)); clear hb))
    | (at_builtin; go_must (refine appT (l := Z) (news := m.bd) (base := w2.heap.size) (B := w.heap.size) rfl rfl rfl rfl (OT.out _) (RB.out.below HB3.out) RL.out (BW.out _).size ?_; intro v5 w5 ho hg hx; obtain ⟨g5, c5, hv5, hb5, hr5⟩ := ho.reads; subst hv5; have R5 := Lib.hid hr5; have B5 := Lib.hid (Below.grown HB3.out hg HB3.out.size (fun j hj => by cases hj; exact HB2.out.size)); clear ho hg hx hb5 hr5)))
  go_ret
  rw [RES.out]
  exact ⟨_, c5, by rw [List.length_append, HBL.out]; rfl, R5.out, B5.out⟩
set_option maxRecDepth 100000 in
set_option maxHeartbeats 2000000 in
theorem wireN111 (m : MadeV) (A : Option Addr) (c : Nat) (w : World) (hp : m.path < 65536) (hr : Reads w w.heap.size 1 A m.body.length (bvs m.body)) (hcap : m.body.length ≤ c) (hl : m.body.length ≤ 140737488351232) (hpost : m.post = true) (hchd : m.chd = false) (hbig : 4096 < m.body.length) :
    Calls Tryd.prog 8 #[.agg #[.int .u16 (m.path : Int), .slice A m.body.length c, .int .u8 (m.ch.toNat : Int), .bool false, .bool true]] w (RPost (wireP m) w) := by
  have HR := Lib.hid hr
  have HL := Lib.hid hl
  obtain ⟨n0, hn0⟩ : ∃ n, n = m.body.length := ⟨_, rfl⟩
  rw [← hn0] at HR ⊢
  have HN0 := Lib.hid hn0
  have gb : decide ((4096 : Int) < (n0 : Int)) = true := by simp; omega
  have gc : (4096 : Int) ≤ (c : Int) := by omega
  have hnb : m.bd.length = 4096 := by unfold MadeV.bd; rw [List.length_take]; omega
  have RB : Hid (Reads w w.heap.size 1 A 4096 (bvs m.bd)) := by
    show Reads _ _ _ _ _ _
    have h1 := HR.out.take (k := 4096) (by omega)
    rw [Nat.mul_one] at h1
    rw [show bvs m.bd = (bvs m.body).take 4096 from by unfold MadeV.bd; simp [bvs]]
    exact h1
  have HNB := Lib.hid hnb
  obtain ⟨pn, hpn⟩ : ∃ p, p = m.path := ⟨_, rfl⟩
  rw [← hpn] at hp ⊢
  have HPN := Lib.hid hpn
  have hpI : (pn : Int) ≤ 65535 := by omega
  obtain ⟨dv, hdv⟩ : ∃ dv : ByteArray, dv = ⟨(Lib.decDigits pn).toArray⟩ := ⟨_, rfl⟩
  have hds : dv.size = (Lib.decDigits pn).length := by rw [hdv]; simp [ByteArray.size]
  have ds20 : dv.size ≤ 20 := by rw [hds]; have := dec_len 4 pn (by omega); omega
  have HDV := Lib.hid hdv
  have t1 : ¬ (9223372036854775807 < 6 + dv.size) := by omega
  have t2 : ¬ (9223372036854775807 < 6 + dv.size + 20) := by omega
  obtain ⟨sv, hS⟩ : ∃ sv : ByteArray, (⟨#[80, 79, 83, 84]⟩ : ByteArray) ++ ⟨#[32, 47]⟩ ++ dv ++ ⟨#[32, 72, 84, 84, 80, 47, 49, 46, 49, 13, 10, 104, 111, 115, 116, 58, 32, 104, 13, 10]⟩ = sv := ⟨_, rfl⟩
  obtain ⟨P, hP⟩ : ∃ P, P = headL m := ⟨_, rfl⟩
  have hSP : sv = ⟨P.toArray⟩ := by
    rw [← hS, hdv, hP, hpn]
    unfold headL
    rw [hpost, ← bapp, ← bapp, ← bapp]
    rfl
  have hPl : P.length ≤ 50 := by
    rw [hP]
    unfold headL
    have h1 := methL_len m.post
    have h2 := dec_len 4 m.path (by omega)
    simp only [List.length_append, List.length_cons, List.length_nil, hostL]
    omega
  have sv60 : sv.size ≤ 60 := by rw [hSP]; simp [ByteArray.size]; omega
  have HSP := Lib.hid hSP
  have HPL := Lib.hid hPl
  have HP := Lib.hid hP
  obtain ⟨ev, hev⟩ : ∃ ev : ByteArray, ev = ⟨(Lib.decDigits m.bd.length).toArray⟩ := ⟨_, rfl⟩
  have hes : ev.size = (Lib.decDigits m.bd.length).length := by rw [hev]; simp [ByteArray.size]
  have es20 : ev.size ≤ 20 := by rw [hes]; have := dec_len 3 m.bd.length (by omega); omega
  have HEV := Lib.hid hev
  have u1 : ¬ (9223372036854775807 < sv.size + 16) := by omega
  have u2 : ¬ (9223372036854775807 < sv.size + 16 + ev.size) := by omega
  have u3 : ¬ (9223372036854775807 < sv.size + 16 + ev.size + 2) := by omega
  have u4 : ¬ (9223372036854775807 < sv.size + 16 + ev.size + 2 + 2) := by omega
  obtain ⟨zv, hZ⟩ : ∃ zv : ByteArray, sv ++ ⟨#[99, 111, 110, 116, 101, 110, 116, 45, 108, 101, 110, 103, 116, 104, 58, 32]⟩ ++ ev ++ ⟨#[13, 10]⟩ ++ ⟨#[13, 10]⟩ = zv := ⟨_, rfl⟩
  obtain ⟨Z, hZl⟩ : ∃ Z, Z = P ++ (clL ++ Lib.decDigits m.bd.length ++ [13, 10]) ++ [13, 10] := ⟨_, rfl⟩
  have hZP : zv = ⟨Z.toArray⟩ := by
    rw [← hZ, hSP, hZl, hev, ← bapp, ← bapp, ← bapp, ← bapp]
    simp only [ByteArray.append_assoc]
    rfl
  have hZn : Z.length ≤ 200 := by rw [hZl]; have := dec_len 3 m.bd.length (by omega); simp only [List.length_append, List.length_cons, List.length_nil, clL]; omega
  have RES : Hid (wireP m = Z ++ m.bd) := by
    show _ = _
    unfold wireP
    rw [if_neg (by rw [hchd]; decide), if_pos (.inr hpost), hZl, hP]
  have hDec : Hid (∀ w', Calls Tryd.prog 11 #[.int .i64 (4096 : Int)] w' fun e w'' => e = .returned (.string ev) ∧ Below w'.heap.size w' w'') := by
    intro w'
    rw [hev]
    have h1 := decimal_any m.bd.length (by omega) w'
    rw [show ((m.bd.length : Nat) : Int) = 4096 from by omega] at h1
    exact h1
  have OT : Hid (∀ w2 : World, OwnT (Lib.bytesWorld w2 5 zv) w2.heap.size (.slice (some ⟨w2.heap.size, 0, none⟩) zv.size (grownCap w2 zv.size 0 5)) Z) := by
    intro w2
    rw [hZP]
    exact ownT_bytes w2 Z (by unfold maxLen; omega)
  have BW : Hid (∀ w2 : World, Below w2.heap.size w2 (Lib.bytesWorld w2 5 zv)) := by
    intro w2
    refine ⟨?_, ?_, ?_, by rw [Lib.bytesWorld_size]; omega, fun k hk => Lib.bytesWorld_at_old w2 _ _ k hk⟩
    all_goals (unfold Lib.bytesWorld World.freeze; rw [if_neg (by decide)]; rfl)
  have hconv := fun w2 => Lib.run_convert_string_bytes (P := Tryd.prog) w2 9 24 5 zv (u := .string) Tryd.underlying9 Tryd.underlying24 Tryd.underlying5
  have RL : Hid (Z.length + 4096 ≤ 140737488355328) := by show _ ≤ _; omega
  have HBL : Hid (m.bd.length = 4096) := by show _ = _; omega
  obtain ⟨cs, hcs⟩ : ∃ cs : Array Value, cs = #[.int .u16 (pn : Int), .slice A n0 c, .int .u8 (m.ch.toNat : Int), .bool false, .bool true] := ⟨_, rfl⟩
  have B0 : Hid (Below w.heap.size w (w.alloc (.cells cs 27))) := (Below.refl _ w).alloc (Nat.le_refl _) _
  rw [hcs] at B0
  have T0 : Hid True := trivial
  clear hcs hr hcap hl hn0 hnb hpn hdv hds hSP hPl hP hZP hZl hZn hpost hchd hbig hev hes hp
  go_enter Tryd.func8, Tryd.ntmps8
  go_wp2_with (first
    | (go_at_call 11; have hx_ := T0; go_must (refine (decimal_any pn (by omega) _).mono ?_; rintro e w1 ⟨rfl, hb⟩; rw [← HDV.out]; have q_ := heap_below (heap_alloc_new w _) hb; have k1 : w1.cell? ⟨w.heap.size, 1, none⟩ = some (.slice A n0 c) := (by rw [cell_of_row w1 w.heap.size 1 _ _ _ q_]; rfl); have k3 : w1.cell? ⟨w.heap.size, 3, none⟩ = some (.bool false) := (by rw [cell_of_row w1 w.heap.size 3 _ _ _ q_]; rfl); have k4 : w1.cell? ⟨w.heap.size, 4, none⟩ = some (.bool true) := (by rw [cell_of_row w1 w.heap.size 4 _ _ _ q_]; rfl); clear q_; have HB1 := Lib.hid (B0.out.trans (hb.mono B0.out.size)); have T1 := hx_; clear hb T0 hx_))
    | (go_at_call 11; go_must (refine (hDec.out _).mono ?_; rintro e w2 ⟨rfl, hb⟩; have HB2 := Lib.hid (HB1.out.trans (hb.mono HB1.out.size)); have HB3 := Lib.hid (HB2.out.trans ((BW.out w2).mono HB2.out.size)); clear hb))
    | (at_builtin; go_must (refine appT (l := Z) (news := m.bd) (base := w2.heap.size) (B := w.heap.size) rfl rfl rfl rfl (OT.out _) (RB.out.below HB3.out) RL.out (BW.out _).size ?_; intro v5 w5 ho hg hx; obtain ⟨g5, c5, hv5, hb5, hr5⟩ := ho.reads; subst hv5; have R5 := Lib.hid hr5; have B5 := Lib.hid (Below.grown HB3.out hg HB3.out.size (fun j hj => by cases hj; exact HB2.out.size)); clear ho hg hx hb5 hr5)))
  go_ret
  rw [RES.out]
  exact ⟨_, c5, by rw [List.length_append, HBL.out]; rfl, R5.out, B5.out⟩
set_option maxRecDepth 100000 in
set_option maxHeartbeats 2000000 in
theorem wireN011 (m : MadeV) (A : Option Addr) (c : Nat) (w : World) (hp : m.path < 65536) (hr : Reads w w.heap.size 1 A m.body.length (bvs m.body)) (hcap : m.body.length ≤ c) (hl : m.body.length ≤ 140737488351232) (hpost : m.post = false) (hchd : m.chd = false) (hbig : 4096 < m.body.length) :
    Calls Tryd.prog 8 #[.agg #[.int .u16 (m.path : Int), .slice A m.body.length c, .int .u8 (m.ch.toNat : Int), .bool false, .bool false]] w (RPost (wireP m) w) := by
  have HR := Lib.hid hr
  have HL := Lib.hid hl
  obtain ⟨n0, hn0⟩ : ∃ n, n = m.body.length := ⟨_, rfl⟩
  rw [← hn0] at HR ⊢
  have HN0 := Lib.hid hn0
  have gb : decide ((4096 : Int) < (n0 : Int)) = true := by simp; omega
  have gc : (4096 : Int) ≤ (c : Int) := by omega
  have hnb : m.bd.length = 4096 := by unfold MadeV.bd; rw [List.length_take]; omega
  have RB : Hid (Reads w w.heap.size 1 A 4096 (bvs m.bd)) := by
    show Reads _ _ _ _ _ _
    have h1 := HR.out.take (k := 4096) (by omega)
    rw [Nat.mul_one] at h1
    rw [show bvs m.bd = (bvs m.body).take 4096 from by unfold MadeV.bd; simp [bvs]]
    exact h1
  have HNB := Lib.hid hnb
  obtain ⟨pn, hpn⟩ : ∃ p, p = m.path := ⟨_, rfl⟩
  rw [← hpn] at hp ⊢
  have HPN := Lib.hid hpn
  have hpI : (pn : Int) ≤ 65535 := by omega
  obtain ⟨dv, hdv⟩ : ∃ dv : ByteArray, dv = ⟨(Lib.decDigits pn).toArray⟩ := ⟨_, rfl⟩
  have hds : dv.size = (Lib.decDigits pn).length := by rw [hdv]; simp [ByteArray.size]
  have ds20 : dv.size ≤ 20 := by rw [hds]; have := dec_len 4 pn (by omega); omega
  have HDV := Lib.hid hdv
  have t1 : ¬ (9223372036854775807 < 5 + dv.size) := by omega
  have t2 : ¬ (9223372036854775807 < 5 + dv.size + 20) := by omega
  obtain ⟨sv, hS⟩ : ∃ sv : ByteArray, (⟨#[71, 69, 84]⟩ : ByteArray) ++ ⟨#[32, 47]⟩ ++ dv ++ ⟨#[32, 72, 84, 84, 80, 47, 49, 46, 49, 13, 10, 104, 111, 115, 116, 58, 32, 104, 13, 10]⟩ = sv := ⟨_, rfl⟩
  obtain ⟨P, hP⟩ : ∃ P, P = headL m := ⟨_, rfl⟩
  have hSP : sv = ⟨P.toArray⟩ := by
    rw [← hS, hdv, hP, hpn]
    unfold headL
    rw [hpost, ← bapp, ← bapp, ← bapp]
    rfl
  have hPl : P.length ≤ 50 := by
    rw [hP]
    unfold headL
    have h1 := methL_len m.post
    have h2 := dec_len 4 m.path (by omega)
    simp only [List.length_append, List.length_cons, List.length_nil, hostL]
    omega
  have sv60 : sv.size ≤ 60 := by rw [hSP]; simp [ByteArray.size]; omega
  have HSP := Lib.hid hSP
  have HPL := Lib.hid hPl
  have HP := Lib.hid hP
  obtain ⟨ev, hev⟩ : ∃ ev : ByteArray, ev = ⟨(Lib.decDigits m.bd.length).toArray⟩ := ⟨_, rfl⟩
  have hes : ev.size = (Lib.decDigits m.bd.length).length := by rw [hev]; simp [ByteArray.size]
  have es20 : ev.size ≤ 20 := by rw [hes]; have := dec_len 3 m.bd.length (by omega); omega
  have HEV := Lib.hid hev
  have u1 : ¬ (9223372036854775807 < sv.size + 16) := by omega
  have u2 : ¬ (9223372036854775807 < sv.size + 16 + ev.size) := by omega
  have u3 : ¬ (9223372036854775807 < sv.size + 16 + ev.size + 2) := by omega
  have u4 : ¬ (9223372036854775807 < sv.size + 16 + ev.size + 2 + 2) := by omega
  obtain ⟨zv, hZ⟩ : ∃ zv : ByteArray, sv ++ ⟨#[99, 111, 110, 116, 101, 110, 116, 45, 108, 101, 110, 103, 116, 104, 58, 32]⟩ ++ ev ++ ⟨#[13, 10]⟩ ++ ⟨#[13, 10]⟩ = zv := ⟨_, rfl⟩
  obtain ⟨Z, hZl⟩ : ∃ Z, Z = P ++ (clL ++ Lib.decDigits m.bd.length ++ [13, 10]) ++ [13, 10] := ⟨_, rfl⟩
  have hZP : zv = ⟨Z.toArray⟩ := by
    rw [← hZ, hSP, hZl, hev, ← bapp, ← bapp, ← bapp, ← bapp]
    simp only [ByteArray.append_assoc]
    rfl
  have hZn : Z.length ≤ 200 := by rw [hZl]; have := dec_len 3 m.bd.length (by omega); simp only [List.length_append, List.length_cons, List.length_nil, clL]; omega
  have RES : Hid (wireP m = Z ++ m.bd) := by
    show _ = _
    unfold wireP
    rw [if_neg (by rw [hchd]; decide), if_pos (.inl (by omega)), hZl, hP]
  have hDec : Hid (∀ w', Calls Tryd.prog 11 #[.int .i64 (4096 : Int)] w' fun e w'' => e = .returned (.string ev) ∧ Below w'.heap.size w' w'') := by
    intro w'
    rw [hev]
    have h1 := decimal_any m.bd.length (by omega) w'
    rw [show ((m.bd.length : Nat) : Int) = 4096 from by omega] at h1
    exact h1
  have OT : Hid (∀ w2 : World, OwnT (Lib.bytesWorld w2 5 zv) w2.heap.size (.slice (some ⟨w2.heap.size, 0, none⟩) zv.size (grownCap w2 zv.size 0 5)) Z) := by
    intro w2
    rw [hZP]
    exact ownT_bytes w2 Z (by unfold maxLen; omega)
  have BW : Hid (∀ w2 : World, Below w2.heap.size w2 (Lib.bytesWorld w2 5 zv)) := by
    intro w2
    refine ⟨?_, ?_, ?_, by rw [Lib.bytesWorld_size]; omega, fun k hk => Lib.bytesWorld_at_old w2 _ _ k hk⟩
    all_goals (unfold Lib.bytesWorld World.freeze; rw [if_neg (by decide)]; rfl)
  have hconv := fun w2 => Lib.run_convert_string_bytes (P := Tryd.prog) w2 9 24 5 zv (u := .string) Tryd.underlying9 Tryd.underlying24 Tryd.underlying5
  have RL : Hid (Z.length + 4096 ≤ 140737488355328) := by show _ ≤ _; omega
  have HBL : Hid (m.bd.length = 4096) := by show _ = _; omega
  obtain ⟨cs, hcs⟩ : ∃ cs : Array Value, cs = #[.int .u16 (pn : Int), .slice A n0 c, .int .u8 (m.ch.toNat : Int), .bool false, .bool false] := ⟨_, rfl⟩
  have B0 : Hid (Below w.heap.size w (w.alloc (.cells cs 27))) := (Below.refl _ w).alloc (Nat.le_refl _) _
  rw [hcs] at B0
  have T0 : Hid True := trivial
  clear hcs hr hcap hl hn0 hnb hpn hdv hds hSP hPl hP hZP hZl hZn hpost hchd hbig hev hes hp
  go_enter Tryd.func8, Tryd.ntmps8
  go_wp2_with (first
    | (go_at_call 11; have hx_ := T0; go_must (refine (decimal_any pn (by omega) _).mono ?_; rintro e w1 ⟨rfl, hb⟩; rw [← HDV.out]; have q_ := heap_below (heap_alloc_new w _) hb; have k1 : w1.cell? ⟨w.heap.size, 1, none⟩ = some (.slice A n0 c) := (by rw [cell_of_row w1 w.heap.size 1 _ _ _ q_]; rfl); have k3 : w1.cell? ⟨w.heap.size, 3, none⟩ = some (.bool false) := (by rw [cell_of_row w1 w.heap.size 3 _ _ _ q_]; rfl); have k4 : w1.cell? ⟨w.heap.size, 4, none⟩ = some (.bool false) := (by rw [cell_of_row w1 w.heap.size 4 _ _ _ q_]; rfl); clear q_; have HB1 := Lib.hid (B0.out.trans (hb.mono B0.out.size)); have T1 := hx_; clear hb T0 hx_))
    | (go_at_call 11; go_must (refine (hDec.out _).mono ?_; rintro e w2 ⟨rfl, hb⟩; have HB2 := Lib.hid (HB1.out.trans (hb.mono HB1.out.size)); have HB3 := Lib.hid (HB2.out.trans ((BW.out w2).mono HB2.out.size)); clear hb))
    | (at_builtin; go_must (refine appT (l := Z) (news := m.bd) (base := w2.heap.size) (B := w.heap.size) rfl rfl rfl rfl (OT.out _) (RB.out.below HB3.out) RL.out (BW.out _).size ?_; intro v5 w5 ho hg hx; obtain ⟨g5, c5, hv5, hb5, hr5⟩ := ho.reads; subst hv5; have R5 := Lib.hid hr5; have B5 := Lib.hid (Below.grown HB3.out hg HB3.out.size (fun j hj => by cases hj; exact HB2.out.size)); clear ho hg hx hb5 hr5)))
  go_ret
  rw [RES.out]
  exact ⟨_, c5, by rw [List.length_append, HBL.out]; rfl, R5.out, B5.out⟩
set_option maxRecDepth 100000 in
set_option maxHeartbeats 2000000 in
theorem wireN001p (m : MadeV) (A : Option Addr) (c : Nat) (w : World) (hp : m.path < 65536) (hr : Reads w w.heap.size 1 A m.body.length (bvs m.body)) (hcap : m.body.length ≤ c) (hl : m.body.length ≤ 140737488351232) (hpost : m.post = false) (hchd : m.chd = false) (hbig : m.body.length ≤ 4096) (_ : 0 < m.body.length) :
    Calls Tryd.prog 8 #[.agg #[.int .u16 (m.path : Int), .slice A m.body.length c, .int .u8 (m.ch.toNat : Int), .bool false, .bool false]] w (RPost (wireP m) w) := by
  have HR := Lib.hid hr
  have HL := Lib.hid hl
  obtain ⟨n0, hn0⟩ : ∃ n, n = m.body.length := ⟨_, rfl⟩
  rw [← hn0] at HR ⊢
  have HN0 := Lib.hid hn0
  have gb : decide ((4096 : Int) < (n0 : Int)) = false := by simp; omega
  have gc : (n0 : Int) ≤ (c : Int) := by omega
  have hnb : m.bd.length = n0 := by unfold MadeV.bd; rw [List.length_take]; omega
  have RB : Hid (Reads w w.heap.size 1 A n0 (bvs m.bd)) := by
    show Reads _ _ _ _ _ _
    have h1 := HR.out.take (k := n0) (by omega)
    rw [Nat.mul_one] at h1
    rw [show bvs m.bd = (bvs m.body).take n0 from by unfold MadeV.bd; rw [List.take_of_length_le (by omega), List.take_of_length_le (by rw [bvs_length]; omega)]]
    exact h1
  have HNB := Lib.hid hnb
  obtain ⟨pn, hpn⟩ : ∃ p, p = m.path := ⟨_, rfl⟩
  rw [← hpn] at hp ⊢
  have HPN := Lib.hid hpn
  have hpI : (pn : Int) ≤ 65535 := by omega
  obtain ⟨dv, hdv⟩ : ∃ dv : ByteArray, dv = ⟨(Lib.decDigits pn).toArray⟩ := ⟨_, rfl⟩
  have hds : dv.size = (Lib.decDigits pn).length := by rw [hdv]; simp [ByteArray.size]
  have ds20 : dv.size ≤ 20 := by rw [hds]; have := dec_len 4 pn (by omega); omega
  have HDV := Lib.hid hdv
  have t1 : ¬ (9223372036854775807 < 5 + dv.size) := by omega
  have t2 : ¬ (9223372036854775807 < 5 + dv.size + 20) := by omega
  obtain ⟨sv, hS⟩ : ∃ sv : ByteArray, (⟨#[71, 69, 84]⟩ : ByteArray) ++ ⟨#[32, 47]⟩ ++ dv ++ ⟨#[32, 72, 84, 84, 80, 47, 49, 46, 49, 13, 10, 104, 111, 115, 116, 58, 32, 104, 13, 10]⟩ = sv := ⟨_, rfl⟩
  obtain ⟨P, hP⟩ : ∃ P, P = headL m := ⟨_, rfl⟩
  have hSP : sv = ⟨P.toArray⟩ := by
    rw [← hS, hdv, hP, hpn]
    unfold headL
    rw [hpost, ← bapp, ← bapp, ← bapp]
    rfl
  have hPl : P.length ≤ 50 := by
    rw [hP]
    unfold headL
    have h1 := methL_len m.post
    have h2 := dec_len 4 m.path (by omega)
    simp only [List.length_append, List.length_cons, List.length_nil, hostL]
    omega
  have sv60 : sv.size ≤ 60 := by rw [hSP]; simp [ByteArray.size]; omega
  have HSP := Lib.hid hSP
  have HPL := Lib.hid hPl
  have HP := Lib.hid hP
  have gz : decide ((0 : Int) < (n0 : Int)) = true := by simp; omega
  have gz2 : 0 < n0 := by omega
  obtain ⟨ev, hev⟩ : ∃ ev : ByteArray, ev = ⟨(Lib.decDigits m.bd.length).toArray⟩ := ⟨_, rfl⟩
  have hes : ev.size = (Lib.decDigits m.bd.length).length := by rw [hev]; simp [ByteArray.size]
  have es20 : ev.size ≤ 20 := by rw [hes]; have := dec_len 3 m.bd.length (by omega); omega
  have HEV := Lib.hid hev
  have u1 : ¬ (9223372036854775807 < sv.size + 16) := by omega
  have u2 : ¬ (9223372036854775807 < sv.size + 16 + ev.size) := by omega
  have u3 : ¬ (9223372036854775807 < sv.size + 16 + ev.size + 2) := by omega
  have u4 : ¬ (9223372036854775807 < sv.size + 16 + ev.size + 2 + 2) := by omega
  obtain ⟨zv, hZ⟩ : ∃ zv : ByteArray, sv ++ ⟨#[99, 111, 110, 116, 101, 110, 116, 45, 108, 101, 110, 103, 116, 104, 58, 32]⟩ ++ ev ++ ⟨#[13, 10]⟩ ++ ⟨#[13, 10]⟩ = zv := ⟨_, rfl⟩
  obtain ⟨Z, hZl⟩ : ∃ Z, Z = P ++ (clL ++ Lib.decDigits m.bd.length ++ [13, 10]) ++ [13, 10] := ⟨_, rfl⟩
  have hZP : zv = ⟨Z.toArray⟩ := by
    rw [← hZ, hSP, hZl, hev, ← bapp, ← bapp, ← bapp, ← bapp]
    simp only [ByteArray.append_assoc]
    rfl
  have hZn : Z.length ≤ 200 := by rw [hZl]; have := dec_len 3 m.bd.length (by omega); simp only [List.length_append, List.length_cons, List.length_nil, clL]; omega
  have RES : Hid (wireP m = Z ++ m.bd) := by
    show _ = _
    unfold wireP
    rw [if_neg (by rw [hchd]; decide), if_pos (.inl (by omega)), hZl, hP]
  have hDec : Hid (∀ w', Calls Tryd.prog 11 #[.int .i64 (n0 : Int)] w' fun e w'' => e = .returned (.string ev) ∧ Below w'.heap.size w' w'') := by
    intro w'
    rw [hev]
    have h1 := decimal_any m.bd.length (by omega) w'
    rw [show ((m.bd.length : Nat) : Int) = n0 from by omega] at h1
    exact h1
  have OT : Hid (∀ w2 : World, OwnT (Lib.bytesWorld w2 5 zv) w2.heap.size (.slice (some ⟨w2.heap.size, 0, none⟩) zv.size (grownCap w2 zv.size 0 5)) Z) := by
    intro w2
    rw [hZP]
    exact ownT_bytes w2 Z (by unfold maxLen; omega)
  have BW : Hid (∀ w2 : World, Below w2.heap.size w2 (Lib.bytesWorld w2 5 zv)) := by
    intro w2
    refine ⟨?_, ?_, ?_, by rw [Lib.bytesWorld_size]; omega, fun k hk => Lib.bytesWorld_at_old w2 _ _ k hk⟩
    all_goals (unfold Lib.bytesWorld World.freeze; rw [if_neg (by decide)]; rfl)
  have hconv := fun w2 => Lib.run_convert_string_bytes (P := Tryd.prog) w2 9 24 5 zv (u := .string) Tryd.underlying9 Tryd.underlying24 Tryd.underlying5
  have RL : Hid (Z.length + n0 ≤ 140737488355328) := by show _ ≤ _; omega
  have HBL : Hid (m.bd.length = n0) := by show _ = _; omega
  obtain ⟨cs, hcs⟩ : ∃ cs : Array Value, cs = #[.int .u16 (pn : Int), .slice A n0 c, .int .u8 (m.ch.toNat : Int), .bool false, .bool false] := ⟨_, rfl⟩
  have B0 : Hid (Below w.heap.size w (w.alloc (.cells cs 27))) := (Below.refl _ w).alloc (Nat.le_refl _) _
  rw [hcs] at B0
  have T0 : Hid True := trivial
  clear hcs hr hcap hl hn0 hnb hpn hdv hds hSP hPl hP hZP hZl hZn hpost hchd hbig hev hes hp
  go_enter Tryd.func8, Tryd.ntmps8
  go_wp2_with (first
    | (go_at_call 11; have hx_ := T0; go_must (refine (decimal_any pn (by omega) _).mono ?_; rintro e w1 ⟨rfl, hb⟩; rw [← HDV.out]; have q_ := heap_below (heap_alloc_new w _) hb; have k1 : w1.cell? ⟨w.heap.size, 1, none⟩ = some (.slice A n0 c) := (by rw [cell_of_row w1 w.heap.size 1 _ _ _ q_]; rfl); have k3 : w1.cell? ⟨w.heap.size, 3, none⟩ = some (.bool false) := (by rw [cell_of_row w1 w.heap.size 3 _ _ _ q_]; rfl); have k4 : w1.cell? ⟨w.heap.size, 4, none⟩ = some (.bool false) := (by rw [cell_of_row w1 w.heap.size 4 _ _ _ q_]; rfl); clear q_; have HB1 := Lib.hid (B0.out.trans (hb.mono B0.out.size)); have T1 := hx_; clear hb T0 hx_))
    | (go_at_call 11; go_must (refine (hDec.out _).mono ?_; rintro e w2 ⟨rfl, hb⟩; have HB2 := Lib.hid (HB1.out.trans (hb.mono HB1.out.size)); have HB3 := Lib.hid (HB2.out.trans ((BW.out w2).mono HB2.out.size)); clear hb))
    | (at_builtin; go_must (refine appT (l := Z) (news := m.bd) (base := w2.heap.size) (B := w.heap.size) rfl rfl rfl rfl (OT.out _) (RB.out.below HB3.out) RL.out (BW.out _).size ?_; intro v5 w5 ho hg hx; obtain ⟨g5, c5, hv5, hb5, hr5⟩ := ho.reads; subst hv5; have R5 := Lib.hid hr5; have B5 := Lib.hid (Below.grown HB3.out hg HB3.out.size (fun j hj => by cases hj; exact HB2.out.size)); clear ho hg hx hb5 hr5)))
  go_ret
  rw [RES.out]
  exact ⟨_, c5, by rw [List.length_append, HBL.out]; rfl, R5.out, B5.out⟩
set_option maxRecDepth 100000 in
set_option maxHeartbeats 2000000 in
theorem wireN000z (m : MadeV) (A : Option Addr) (c : Nat) (w : World) (hp : m.path < 65536) (hr : Reads w w.heap.size 1 A m.body.length (bvs m.body)) (_ : m.body.length ≤ c) (hl : m.body.length ≤ 140737488351232) (hpost : m.post = false) (hchd : m.chd = false) (hbig : m.body.length ≤ 4096) (hz : m.body.length = 0) :
    Calls Tryd.prog 8 #[.agg #[.int .u16 (m.path : Int), .slice A m.body.length c, .int .u8 (m.ch.toNat : Int), .bool false, .bool false]] w (RPost (wireP m) w) := by
  have HR := Lib.hid hr
  have HL := Lib.hid hl
  obtain ⟨n0, hn0⟩ : ∃ n, n = m.body.length := ⟨_, rfl⟩
  rw [← hn0] at HR ⊢
  have HN0 := Lib.hid hn0
  have gb : decide ((4096 : Int) < (n0 : Int)) = false := by simp; omega
  have gc : (n0 : Int) ≤ (c : Int) := by omega
  have hnb : m.bd.length = n0 := by unfold MadeV.bd; rw [List.length_take]; omega
  have RB : Hid (Reads w w.heap.size 1 A n0 (bvs m.bd)) := by
    show Reads _ _ _ _ _ _
    have h1 := HR.out.take (k := n0) (by omega)
    rw [Nat.mul_one] at h1
    rw [show bvs m.bd = (bvs m.body).take n0 from by unfold MadeV.bd; rw [List.take_of_length_le (by omega), List.take_of_length_le (by rw [bvs_length]; omega)]]
    exact h1
  have HNB := Lib.hid hnb
  obtain ⟨pn, hpn⟩ : ∃ p, p = m.path := ⟨_, rfl⟩
  rw [← hpn] at hp ⊢
  have HPN := Lib.hid hpn
  have hpI : (pn : Int) ≤ 65535 := by omega
  obtain ⟨dv, hdv⟩ : ∃ dv : ByteArray, dv = ⟨(Lib.decDigits pn).toArray⟩ := ⟨_, rfl⟩
  have hds : dv.size = (Lib.decDigits pn).length := by rw [hdv]; simp [ByteArray.size]
  have ds20 : dv.size ≤ 20 := by rw [hds]; have := dec_len 4 pn (by omega); omega
  have HDV := Lib.hid hdv
  have t1 : ¬ (9223372036854775807 < 5 + dv.size) := by omega
  have t2 : ¬ (9223372036854775807 < 5 + dv.size + 20) := by omega
  obtain ⟨sv, hS⟩ : ∃ sv : ByteArray, (⟨#[71, 69, 84]⟩ : ByteArray) ++ ⟨#[32, 47]⟩ ++ dv ++ ⟨#[32, 72, 84, 84, 80, 47, 49, 46, 49, 13, 10, 104, 111, 115, 116, 58, 32, 104, 13, 10]⟩ = sv := ⟨_, rfl⟩
  obtain ⟨P, hP⟩ : ∃ P, P = headL m := ⟨_, rfl⟩
  have hSP : sv = ⟨P.toArray⟩ := by
    rw [← hS, hdv, hP, hpn]
    unfold headL
    rw [hpost, ← bapp, ← bapp, ← bapp]
    rfl
  have hPl : P.length ≤ 50 := by
    rw [hP]
    unfold headL
    have h1 := methL_len m.post
    have h2 := dec_len 4 m.path (by omega)
    simp only [List.length_append, List.length_cons, List.length_nil, hostL]
    omega
  have sv60 : sv.size ≤ 60 := by rw [hSP]; simp [ByteArray.size]; omega
  have HSP := Lib.hid hSP
  have HPL := Lib.hid hPl
  have HP := Lib.hid hP
  have gz : n0 = 0 := by omega
  subst gz
  have u1 : ¬ (9223372036854775807 < sv.size + 2) := by omega
  obtain ⟨zv, hZ⟩ : ∃ zv : ByteArray, sv ++ ⟨#[13, 10]⟩ = zv := ⟨_, rfl⟩
  obtain ⟨Z, hZl⟩ : ∃ Z, Z = P ++ [13, 10] := ⟨_, rfl⟩
  have hZP : zv = ⟨Z.toArray⟩ := by rw [← hZ, hSP, hZl, ← bapp]
  have hZn : Z.length ≤ 200 := by rw [hZl]; simp only [List.length_append, List.length_cons, List.length_nil]; omega
  have RES : Hid (wireP m = Z ++ m.bd) := by
    show _ = _
    unfold wireP
    rw [if_neg (by rw [hchd]; decide), if_neg (by rw [hpost]; simp; exact List.eq_nil_of_length_eq_zero (by omega)), hZl, hP, List.append_nil]
  have OT : Hid (∀ w2 : World, OwnT (Lib.bytesWorld w2 5 zv) w2.heap.size (.slice (some ⟨w2.heap.size, 0, none⟩) zv.size (grownCap w2 zv.size 0 5)) Z) := by
    intro w2
    rw [hZP]
    exact ownT_bytes w2 Z (by unfold maxLen; omega)
  have BW : Hid (∀ w2 : World, Below w2.heap.size w2 (Lib.bytesWorld w2 5 zv)) := by
    intro w2
    refine ⟨?_, ?_, ?_, by rw [Lib.bytesWorld_size]; omega, fun k hk => Lib.bytesWorld_at_old w2 _ _ k hk⟩
    all_goals (unfold Lib.bytesWorld World.freeze; rw [if_neg (by decide)]; rfl)
  have hconv := fun w2 => Lib.run_convert_string_bytes (P := Tryd.prog) w2 9 24 5 zv (u := .string) Tryd.underlying9 Tryd.underlying24 Tryd.underlying5
  have RL : Hid (Z.length + 0 ≤ 140737488355328) := by show _ ≤ _; omega
  have HBL : Hid (m.bd.length = 0) := by show _ = _; omega
  obtain ⟨cs, hcs⟩ : ∃ cs : Array Value, cs = #[.int .u16 (pn : Int), .slice A 0 c, .int .u8 (m.ch.toNat : Int), .bool false, .bool false] := ⟨_, rfl⟩
  have B0 : Hid (Below w.heap.size w (w.alloc (.cells cs 27))) := (Below.refl _ w).alloc (Nat.le_refl _) _
  rw [hcs] at B0
  have T0 : Hid True := trivial
  clear hcs hr hl hn0 hnb hpn hdv hds hSP hPl hP hZP hZl hZn hpost hchd hbig hz hp
  go_enter Tryd.func8, Tryd.ntmps8
  go_wp2_with (first
    | (go_at_call 11; have hx_ := T0; go_must (refine (decimal_any pn (by omega) _).mono ?_; rintro e w1 ⟨rfl, hb⟩; rw [← HDV.out]; have q_ := heap_below (heap_alloc_new w _) hb; have k1 : w1.cell? ⟨w.heap.size, 1, none⟩ = some (.slice A 0 c) := (by rw [cell_of_row w1 w.heap.size 1 _ _ _ q_]; rfl); have k3 : w1.cell? ⟨w.heap.size, 3, none⟩ = some (.bool false) := (by rw [cell_of_row w1 w.heap.size 3 _ _ _ q_]; rfl); have k4 : w1.cell? ⟨w.heap.size, 4, none⟩ = some (.bool false) := (by rw [cell_of_row w1 w.heap.size 4 _ _ _ q_]; rfl); clear q_; have HB1 := Lib.hid (B0.out.trans (hb.mono B0.out.size)); have HB3 := Lib.hid (HB1.out.trans ((BW.out w1).mono HB1.out.size)); have T1 := hx_; clear hb T0 hx_))
    | (fail)
    | (at_builtin; go_must (refine appT (l := Z) (news := m.bd) (base := w1.heap.size) (B := w.heap.size) rfl rfl rfl rfl (OT.out _) (RB.out.below HB3.out) RL.out (BW.out _).size ?_; intro v5 w5 ho hg hx; obtain ⟨g5, c5, hv5, hb5, hr5⟩ := ho.reads; subst hv5; have R5 := Lib.hid hr5; have B5 := Lib.hid (Below.grown HB3.out hg HB3.out.size (fun j hj => by cases hj; exact HB1.out.size)); clear ho hg hx hb5 hr5)))
  go_ret
  rw [RES.out]
  exact ⟨_, c5, by rw [List.length_append, HBL.out]; rfl, R5.out, B5.out⟩
end Go.Proofs.YtjichadkonlfpaaDoor
