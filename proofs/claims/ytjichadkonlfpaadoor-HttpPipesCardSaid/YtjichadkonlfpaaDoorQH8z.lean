/- The texts H8c H8d of this work, merged by wip/merge.py. No conditions. -/
import Derived.Test.YtjichadkonlfpaaDoorQH8y
import Derived.Lib.ConvBytes
namespace Go.Proofs.YtjichadkonlfpaaDoor
open Go.RowKit
theorem hexN_succ (v : List UInt8) (k : Nat) (h : k < v.length) : hexN (v.take (k + 1)) = hexN (v.take k) * 16 + hexV v[k] := by
  unfold hexN
  rw [List.take_succ_eq_append_getElem h, List.foldl_append]
  rfl
theorem hex_cases {c : UInt8} (h : hexB c = true) : (48 ≤ (c.toNat : Int) ∧ (c.toNat : Int) ≤ 57 ∧ (hexV c : Int) = (c.toNat : Int) - 48) ∨
    (((c.toNat : Int) < 48 ∨ 57 < (c.toNat : Int)) ∧ 97 ≤ lowI c ∧ lowI c ≤ 102 ∧ (hexV c : Int) = lowI c - 97 + 10) := by
  cases hd : digitB c with
  | true =>
    refine .inl ?_
    have h1 : hexV c = c.toNat - 48 := by unfold hexV; rw [hd]; rfl
    simp only [digitB, Bool.and_eq_true, decide_eq_true_eq] at hd
    omega
  | false =>
    have h1 : hexV c = (lowI c).toNat - 87 := by unfold hexV; rw [hd]; rfl
    rw [hexB, hd, Bool.false_or] at h
    simp only [letterB, Bool.and_eq_true, decide_eq_true_eq] at h
    simp only [digitB, Bool.and_eq_false_iff, decide_eq_false_iff_not] at hd
    exact .inr ⟨by omega, by omega, by omega, by omega⟩
theorem hex95 {c : UInt8} (h : hexB c = true) : (c.toNat : Int) ≠ 95 := by
  intro h2
  have : c = 95 := UInt8.toNat_inj.1 (by show c.toNat = 95; omega)
  subst this
  exact absurd h (by decide +kernel)
theorem hexV_lt {c : UInt8} (h : hexB c = true) : hexV c < 16 := by
  rcases hex_cases h with h1 | h1 <;> omega
theorem hexN_lt (v : List UInt8) (h : ∀ c ∈ v, hexB c = true) (k : Nat) (hk : k ≤ v.length) : hexN (v.take k) < 16 ^ k := by
  induction k with
  | zero => simp [hexN]
  | succ k ih =>
    have h1 := ih (by omega)
    have h2 := hexV_lt (h v[k] (List.getElem_mem (by omega)))
    rw [hexN_succ v k (by omega), Nat.pow_succ]
    omega
theorem hexN_small (v : List UInt8) (h : ∀ c ∈ v, hexB c = true) (h6 : v.length ≤ 6) (k : Nat) (hk : k ≤ v.length) : hexN (v.take k) < 16777216 :=
  Nat.lt_of_lt_of_le (hexN_lt v h k hk) (by have := Nat.pow_le_pow_right (n := 16) (by decide) (show k ≤ 6 by omega); omega)
set_option maxRecDepth 100000 in
theorem lower_byte (c : UInt8) (w : World) : Calls Tryd.prog 85 #[.int .u8 (c.toNat : Int)] w fun e w' => e = .returned (.int .u8 (lowI c)) ∧ w' = w := by
  obtain ⟨n, hn⟩ : ∃ n, n = lowI c := ⟨_, rfl⟩
  have hN : bits .or .u8 (c.toNat : Int) 32 = n := hn.symm
  rw [← hn]
  clear hn
  go_enter Tryd.func85, Tryd.ntmps85
  go_wp2
  go_ret
  exact ⟨rfl, rfl⟩
theorem bytes_row (w : World) (l : List UInt8) : Below w.heap.size w (Lib.bytesWorld w 5 ⟨l.toArray⟩) ∧ ∀ (k : Nat) (hk : k < l.length), (Lib.bytesWorld w 5 ⟨l.toArray⟩).cell? ⟨w.heap.size, k, none⟩ = some (.int .u8 (l[k].toNat : Int)) := by
  have hn : (ByteArray.mk l.toArray).size = l.length := by simp [ByteArray.size]
  refine ⟨⟨?_, ?_, ?_, by rw [Lib.bytesWorld_size]; omega, fun k hk => Lib.bytesWorld_at_old w _ _ k hk⟩, fun k hk => ?_⟩
  all_goals try (unfold Lib.bytesWorld World.freeze; rw [if_neg (by decide)]; rfl)
  rw [Lib.bytesWorld_cell w _ _ k (by rw [hn]; exact hk)]
  simp [hk]
set_option maxRecDepth 100000 in
set_option maxHeartbeats 1000000 in
theorem parseU (v : List UInt8) (w : World) (h1 : 1 ≤ v.length) (h6 : v.length ≤ 6) (hx : ∀ c ∈ v, hexB c = true) :
    Calls Tryd.prog 70 #[.string ⟨v.toArray⟩, .int .i64 16, .int .i64 32] w fun e w' => e = .returned (.tuple #[.int .u64 (hexN v : Int), .nilIface]) ∧ Below w.heap.size w w' := by
  have BW := Lib.hid (bytes_row w v)
  have hsz : (ByteArray.mk v.toArray).size = v.length := by simp [ByteArray.size]
  have hne : (⟨v.toArray⟩ : ByteArray).toList.isEmpty = false := by
    rw [ByteArray.toList_eq]
    cases v with
    | nil => simp at h1
    | cons a l => rfl
  obtain ⟨sv, hsv⟩ : ∃ sv : ByteArray, sv = ⟨v.toArray⟩ := ⟨_, rfl⟩
  rw [← hsv] at hne hsz BW ⊢
  have hcv := Lib.run_convert_string_bytes (P := Tryd.prog) w 9 24 5 sv (u := .string) Tryd.underlying9 Tryd.underlying24 Tryd.underlying5
  have n1 : (1 : Int) ≤ (sv.size : Int) := by omega
  have n6 : (sv.size : Int) ≤ 6 := by omega
  have HN := Lib.hid hsz
  have HX := Lib.hid hx
  have H6 := Lib.hid h6
  clear hsz h1 h6 hx hsv
  go_enter Tryd.func70, Tryd.ntmps70
  go_wp2
  go_loopw [12, 13, 101] (fun u x i wr => ∃ k : Nat, k ≤ sv.size ∧ i = .int .i64 (k : Int) ∧ u = .bool false ∧ x = .int .u64 (hexN (v.take k) : Int) ∧ Hid (wr = Lib.bytesWorld w 5 sv)) (fun _ _ i _ => sv.size - (intOf i).toNat)
  case atStart => exact ⟨0, Nat.zero_le _, rfl, rfl, rfl, rfl⟩
  case round =>
    obtain ⟨k, hk, rfl, rfl, rfl, hO⟩ := hrel
    by_cases hlt : k < sv.size
    · have hlt' : (k : Int) < (sv.size : Int) := by omega
      have hk0 : (0 : Int) ≤ (k : Int) := by omega
      have hkl : k < v.length := by rw [← HN.out]; exact hlt
      have cc := BW.out.2 k hkl
      rw [← show wr = _ from hO.out] at cc
      have NX := Lib.hid (hexN_succ v k hkl)
      have hN := hexN_small v HX.out H6.out k (by omega)
      obtain ⟨N, hNN⟩ : ∃ N, N = hexN (v.take k) := ⟨_, rfl⟩
      rw [← hNN] at hN NX ⊢
      obtain ⟨c, hc⟩ : ∃ c, c = v[k] := ⟨_, rfl⟩
      have hcb := HX.out v[k] (List.getElem_mem hkl)
      rw [← hc] at cc NX hcb
      have hcs := hex_cases hcb
      have n95 := hex95 hcb
      obtain ⟨d, hd⟩ : ∃ d, d = hexV c := ⟨_, rfl⟩
      rw [← hd] at NX hcs
      obtain ⟨C, hC⟩ : ∃ C : Int, C = (c.toNat : Int) := ⟨_, rfl⟩
      rw [← hC] at cc hcs n95
      have b2 : ¬ (1152921504606846976 : Int) ≤ (N : Int) := by omega
      have b3 : (N : Int) < 16777216 := by omega
      have b4 : (0 : Int) ≤ (N : Int) := by omega
      have HK := Lib.hid hlt
      have C0 : 0 ≤ C := by omega
      have C1 : C < 256 := by have := c.toNat_lt; omega
      obtain ⟨L, hL⟩ : ∃ L, L = lowI c := ⟨_, rfl⟩
      rw [← hL] at hcs
      have LOW : Hid (∀ w, Calls Tryd.prog 85 #[.int .u8 C] w fun e w' => e = .returned (.int .u8 L) ∧ w' = w) := by
        show ∀ w, Calls _ _ _ _ _
        rw [hC, hL]
        exact lower_byte c
      clear hNN hc hcb hd hkl hC hL
      have h95 : (C == 95) = false := by simpa using n95
      clear n95
      rcases hcs with ⟨c1, c2, c3⟩ | ⟨c1, c2, c3, c4⟩
      · have e1 : ¬ (16 ≤ C - 48) := by omega
        have e2 : (0 : Int) ≤ C - 48 := by omega
        have b5 : ¬ ((N : Int) * 16 + (C - 48) < (N : Int) * 16) := by omega
        have b6 : ¬ (4294967295 < (N : Int) * 16 + (C - 48)) := by omega
        have C3 := Lib.hid c3
        clear c3
        go_wp2
        go_roundw
        case rel => exact ⟨k + 1, HK.out, by go_num, rfl, by rw [NX.out]; have h3_ := C3.out; go_num, hO⟩
        case measure => simp [intOf]; omega
      · have e1 : decide ((16 : Int) ≤ L - 97 + 10) = false := by simp; omega
        have e2 : (0 : Int) ≤ L - 97 := by omega
        have e3 : L ≤ 122 := by omega
        have b2' : decide ((1152921504606846976 : Int) ≤ (N : Int)) = false := by simp; omega
        have b5 : decide ((N : Int) * 16 + (L - 97 + 10) < (N : Int) * 16) = false := by simp; omega
        have b6 : decide (4294967295 < (N : Int) * 16 + (L - 97 + 10)) = false := by simp; omega
        have C4 := Lib.hid c4
        clear c4
        rcases c1 with c1 | c1
        · have k1 : ¬ 48 ≤ C := by omega
          go_wp2_with (go_at_call 85; go_must (refine (LOW.out _).mono ?_; rintro e w1 ⟨rfl, rfl⟩))
          go_roundw
          case rel => exact ⟨k + 1, HK.out, by go_num, rfl, by rw [NX.out]; have h3_ := C4.out; go_num, hO⟩
          case measure => simp [intOf]; omega
        · have k1 : ¬ C ≤ 57 := by omega
          have k2 : 48 ≤ C := by omega
          go_wp2_with (go_at_call 85; go_must (refine (LOW.out _).mono ?_; rintro e w1 ⟨rfl, rfl⟩))
          go_roundw
          case rel => exact ⟨k + 1, HK.out, by go_num, rfl, by rw [NX.out]; have h3_ := C4.out; go_num, hO⟩
          case measure => simp [intOf]; omega
    · obtain rfl : k = sv.size := by omega
      rw [show v.take sv.size = v from by rw [HN.out, List.take_length]]
      go_wp2
      go_ret2
      exact ⟨rfl, by rw [show wr = _ from hO.out]; exact BW.out.1⟩
end Go.Proofs.YtjichadkonlfpaaDoor

namespace Go.Proofs.YtjichadkonlfpaaDoor
open Go.RowKit
theorem hex_at (v : List UInt8) (h1 : 1 ≤ v.length) (hx : ∀ c ∈ v, hexB c = true) (n : UInt8) (hn : hexB n = false) (hp : 0 < (⟨v.toArray⟩ : ByteArray).size) : ((((⟨v.toArray⟩ : ByteArray)[0]'hp).toNat : Int) == (n.toNat : Int)) = false := by
  have e : (⟨v.toArray⟩ : ByteArray)[0]'hp = v[0]'(by omega) := by
    show (v.toArray)[0] = _
    simp
  rw [e]
  have h2 := hx v[0] (List.getElem_mem _)
  simp only [beq_eq_false_iff_ne, ne_eq]
  intro h3
  have : v[0] = n := UInt8.toNat_inj.1 (by omega)
  rw [this, hn] at h2
  cases h2
set_option maxRecDepth 100000 in
set_option maxHeartbeats 1000000 in
theorem parseI0 (v : List UInt8) (w : World) (h1 : 1 ≤ v.length) (h6 : v.length ≤ 6) (hx : ∀ c ∈ v, hexB c = true) :
    Calls Tryd.prog 51 #[.string ⟨v.toArray⟩, .int .i64 16, .int .i64 32] w fun e w' => e = .returned (.tuple #[.int .i64 (hexN v : Int), .nilIface]) ∧ Below w.heap.size w w' := by
  have PU := Lib.hid (parseU v w h1 h6 hx)
  have hsz : (ByteArray.mk v.toArray).size = v.length := by simp [ByteArray.size]
  have hp : 0 < (⟨v.toArray⟩ : ByteArray).size := by omega
  have h43 := hex_at v h1 hx 43 (by decide +kernel) hp
  have h45 := hex_at v h1 hx 45 (by decide +kernel) hp
  have hN := hexN_small v hx h6 v.length (Nat.le_refl _)
  rw [List.take_length] at hN
  have hne : (⟨v.toArray⟩ : ByteArray).toList.isEmpty = false := by
    rw [ByteArray.toList_eq]
    cases v with
    | nil => simp at h1
    | cons a l => rfl
  obtain ⟨N, hNN⟩ : ∃ N, N = hexN v := ⟨_, rfl⟩
  rw [← hNN] at hN ⊢
  have HNN := Lib.hid hNN
  obtain ⟨sv, hsv⟩ : ∃ sv : ByteArray, sv = ⟨v.toArray⟩ := ⟨_, rfl⟩
  revert hp
  rw [← hsv] at hne hsz PU ⊢
  intro hp h43 h45
  have n1 : (1 : Int) ≤ (sv.size : Int) := by omega
  obtain ⟨b, hb⟩ : ∃ b : UInt8, b = sv[0]'hp := ⟨_, rfl⟩
  rw [← hb] at h43 h45
  clear hsv
  have hb' := hb.symm
  have b1 : decide ((2147483648 : Int) ≤ (N : Int)) = false := by simp; omega
  have b2 : (N : Int) < 16777216 := by omega
  have b3 : (0 : Int) ≤ (N : Int) := by omega
  clear h1 h6 hx hN hNN hb hsz
  have h43' : ((b.toNat : Int) == 43) = false := h43
  have h45' : ((b.toNat : Int) == 45) = false := h45
  clear h43 h45
  go_enter Tryd.func51, Tryd.ntmps51
  go_wp2_with (go_at_call 70; go_must (refine PU.out.mono ?_; rintro e w1 ⟨rfl, hb_⟩; rw [← HNN.out]; have HB := Lib.hid hb_; clear hb_))
  go_ret2
  exact ⟨rfl, HB.out⟩
set_option maxRecDepth 100000 in
theorem parseI (v : List UInt8) (w : World) (h1 : 1 ≤ v.length) (h6 : v.length ≤ 6) (hx : ∀ c ∈ v, hexB c = true) :
    Calls Tryd.prog 34 #[.string ⟨v.toArray⟩, .int .i64 16, .int .i64 32] w fun e w' => e = .returned (.tuple #[.int .i64 (hexN v : Int), .nilIface]) ∧ Below w.heap.size w w' := by
  have PU := Lib.hid (parseI0 v w h1 h6 hx)
  clear h1 h6 hx
  go_enter Tryd.func34, Tryd.ntmps34
  go_wp2_with (go_at_call 51; go_must (refine PU.out.mono ?_; rintro e w1 ⟨rfl, hb_⟩; have HB := Lib.hid hb_; clear hb_))
  go_ret2
  exact ⟨rfl, HB.out⟩
set_option maxRecDepth 100000 in
set_option maxHeartbeats 1000000 in
theorem ib10d (w : World) (g : Nat) (s : PS) (W H B : Value) (c : UInt8) (P : Par w g s W H B) (hst : s.st = 10) (h0 : ((c.toNat : Int) == 13) = true) (h1 : decide ((0 : Int) < (s.wd.length : Int)) = true) (h6 : s.wd.length ≤ 6) (hx : ∀ c ∈ s.wd, hexB c = true) : Calls Tryd.prog 23 #[.pointer (some ⟨g, 0, none⟩), .int .u8 (c.toNat : Int)] w (PPost g W H B w (({ s with lf := (hexN s.wd : Int), wd := [], st := 11 }, (0 : Int))).1 (.int .i64 (({ s with lf := (hexN s.wd : Int), wd := [], st := 11 }, (0 : Int))).2)) := by
  have HP := Lib.hid P
  have H6 := Lib.hid h6
  have HX := Lib.hid hx
  have e_ := P.at_
  rw [hst] at e_
  obtain ⟨e0, _, _, e3, _, _, _, _, _, _, _⟩ := e_
  obtain ⟨n, hn⟩ : ∃ n, n = s.wd.length := ⟨_, rfl⟩
  rw [← hn] at h1
  have i1 : (0 : Int) < (n : Int) := by simpa using h1
  have HPOS : Hid (1 ≤ s.wd.length) := by show 1 ≤ _; omega
  clear h1
  obtain ⟨A, cW, hW, _, _⟩ := own8_form' (n := n) P.wd hn.symm
  subst hW
  clear P h6 hx hst hn
  obtain ⟨N, hN⟩ : ∃ N, N = hexN s.wd := ⟨_, rfl⟩
  have HN := Lib.hid hN
  rw [← hN]
  clear hN
  go_enter Tryd.func23, Tryd.ntmps23
  go_wp2_with (first
    | (go_at_call 25; go_must (refine (done_st _ g s _ H B 11 HP.out).mono ?_; rintro e w1 ⟨rfl, P1, S1⟩; have HP1 := Lib.hid P1; have HS1 := Lib.hid S1; clear P1 S1))
    | (go_at_call 34; go_must (refine (parseI s.wd w1 HPOS.out H6.out HX.out).mono ?_; rintro e w2 ⟨rfl, hb⟩; rw [← HN.out]; have PA := HP1.out.below hb; have eA := PA.at_.2.2.2.2.2.2.2.2.2.2; have fA := PA.fz 10; have SA := PA.set (s' := { s with lf := (N : Int), wd := [], st := 11 }) 10 (.int .i64 (N : Int)) rfl rfl rfl rfl; have G2 := Lib.hid (And.intro SA.1 ((HS1.out.trans (PStep.of_below hb)).trans SA.2)); clear hb PA SA)))
  go_ret
  exact ⟨rfl, _, H, B, G2.out.1, G2.out.2⟩
theorem body_any (w : World) (g : Nat) (s : PS) (W H B : Value) (c : UInt8) (P : Par w g s W H B) (hl : s.wd.length + 1 ≤ 140737488355328) (hb : s.bd.length + 1 ≤ 140737488355328) (l0 : -1 ≤ s.lf) (l1 : s.lf ≤ 1000000000) (hw : s.st = 10 → s.wd.length ≤ 6 ∧ ∀ b ∈ s.wd, hexB b = true) (hs : s.st = 0 ∨ s.st = 1 ∨ 9 ≤ s.st ∧ s.st ≤ 14) :
    Calls Tryd.prog 23 #[.pointer (some ⟨g, 0, none⟩), .int .u8 (c.toNat : Int)] w (PPost g W H B w (inBodyP s c).1 (.int .i64 (inBodyP s c).2)) := by
  unfold inBodyP
  by_cases e0 : s.st = 0
  · rw [if_pos e0]; exact ib0 w g s W H B c P hl e0
  rw [if_neg e0]
  by_cases e1 : s.st = 1
  · rw [if_pos e1]; exact ib1 w g s W H B c P hl e1
  rw [if_neg e1]
  by_cases e9 : s.st = 9 ∨ s.st = 12
  · rw [if_pos e9]
    unfold body9
    rcases e9 with e9 | e9
    · rw [if_neg (by omega)]
      cases hz : (s.lf - 1 == 0)
      · exact ib9n w g s W H B c P hb l0 l1 e9 hz
      · exact ib9z w g s W H B c P hb l0 l1 e9 hz
    · cases hz : (s.lf - 1 == 0)
      · rw [if_neg (by simp at hz; omega)]
        exact ib12n w g s W H B c P hb l0 l1 e9 hz
      · rw [if_pos ⟨by simpa using hz, e9⟩]
        exact ib12z w g s W H B c P hb l0 l1 e9 hz
  rw [if_neg e9]
  by_cases e10 : s.st = 10
  · rw [if_pos e10]
    obtain ⟨h6, hx⟩ := hw e10
    unfold body10
    cases h0 : ((c.toNat : Int) == 13)
    · rw [Bool.false_and, if_neg (by decide)]
      unfold hexB
      cases h1 : digitB c
      · rw [Bool.false_or]
        cases h2 : letterB c
        · exact ib10b2 w g s W H B c P hl e10 h0 h1 h2
        · rw [Bool.true_and]
          cases h3 : decide (lowI c ≤ 102)
          · exact ib10b3 w g s W H B c P hl e10 h0 h1 h2 h3
          · rw [Bool.true_and]
            cases h4 : decide ((s.wd.length : Int) < 6)
            · exact ib10b5 w g s W H B c P hl e10 h0 h1 h2 h3 h4
            · exact ib10b4 w g s W H B c P hl e10 h0 h1 h2 h3 h4
      · rw [Bool.true_or, Bool.true_and]
        cases h4 : decide ((s.wd.length : Int) < 6)
        · exact ib10b1 w g s W H B c P hl e10 h0 h1 h4
        · exact ib10b0 w g s W H B c P hl e10 h0 h1 h4
    · rw [Bool.true_and]
      have hc : c = 13 := UInt8.toNat_inj.1 (by simp at h0; show c.toNat = 13; omega)
      cases h1 : decide ((0 : Int) < (s.wd.length : Int))
      · rw [if_neg (by decide)]
        have h2 : digitB c = false := by rw [hc]; decide
        have h3 : letterB c = false := by rw [hc]; decide +kernel
        rw [show (hexB c && decide ((s.wd.length : Int) < 6)) = false from by unfold hexB; rw [h2, h3]; rfl]
        exact ib10c w g s W H B c P hl e10 h0 h1 h2 h3
      · rw [if_pos rfl]
        exact ib10d w g s W H B c P e10 h0 h1 h6 hx
  rw [if_neg e10]
  by_cases e11 : s.st = 11
  · rw [if_pos e11]
    unfold body11
    cases h0 : ((c.toNat : Int) != 10)
    · rw [if_neg (by decide)]
      cases h1 : decide (4096 < s.lf + (s.bd.length : Int))
      · rw [if_neg (by decide)]
        cases h2 : (s.lf == 0)
        · rw [if_neg (by decide)]; exact ib11b w g s W H B c P hb l0 l1 e11 h0 h1 h2
        · rw [if_pos rfl]; exact ib11c w g s W H B c P hb l0 l1 e11 h0 h1 h2
      · rw [if_pos rfl]; exact ib11a w g s W H B c P hb l0 l1 e11 h0 h1
    · rw [if_pos rfl]; exact ib11x w g s W H B c P hl e11 h0
  rw [if_neg e11]
  by_cases e13 : s.st = 13
  · rw [if_pos e13]; exact ib13 w g s W H B c P hl e13
  rw [if_neg e13]
  have e14 : s.st = 14 := by omega
  rw [if_pos e14]
  unfold body14
  by_cases hc : s.lf < 0
  · rw [if_pos hc]; exact ib14a w g s W H B c P hl e14 (by simpa using hc)
  · rw [if_neg hc]; exact ib14b w g s W H B c P hl e14 (by simpa using hc)
end Go.Proofs.YtjichadkonlfpaaDoor
