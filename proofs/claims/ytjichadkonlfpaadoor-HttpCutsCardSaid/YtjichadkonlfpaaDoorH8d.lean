/- strconv.ParseInt on one to six hexadecimal digits; a chunk's size is read. No conditions. -/
import Derived.Test.YtjichadkonlfpaaDoorH8c
namespace Go.Proofs.YtjichadkonlfpaaDoor
open Go.RowKit
theorem hex_at (v : List UInt8) (h1 : 1 ≤ v.length) (hx : ∀ c ∈ v, hexB c = true) (n : UInt8) (hn : hexB n = false) (hp : 0 < (⟨v.toArray⟩ : ByteArray).size) : ((((⟨v.toArray⟩ : ByteArray)[0]'hp).toNat : Int) == (n.toNat : Int)) = false := by
  have e : (⟨v.toArray⟩ : ByteArray)[0]'hp = v[0]'(by omega) := by
    show (v.toArray)[0] = _
    simp
  rw [e]
  have h2 := hx v[0] (List.getElem_mem _)
  simp only [beq_eq_false_iff_ne, ne_eq]
  intro h3
  have : v[0] = n := UInt8.toNat_inj.1 (by omega)
  rw [this, hn] at h2
  cases h2
set_option maxRecDepth 100000 in
set_option maxHeartbeats 1000000 in
theorem parseI0 (v : List UInt8) (w : World) (h1 : 1 ≤ v.length) (h6 : v.length ≤ 6) (hx : ∀ c ∈ v, hexB c = true) :
    Calls Tryd.prog 51 #[.string ⟨v.toArray⟩, .int .i64 16, .int .i64 32] w fun e w' => e = .returned (.tuple #[.int .i64 (hexN v : Int), .nilIface]) ∧ Below w.heap.size w w' := by
  have PU := Lib.hid (parseU v w h1 h6 hx)
  have hsz : (ByteArray.mk v.toArray).size = v.length := by simp [ByteArray.size]
  have hp : 0 < (⟨v.toArray⟩ : ByteArray).size := by omega
  have h43 := hex_at v h1 hx 43 (by decide +kernel) hp
  have h45 := hex_at v h1 hx 45 (by decide +kernel) hp
  have hN := hexN_small v hx h6 v.length (Nat.le_refl _)
  rw [List.take_length] at hN
  have hne : (⟨v.toArray⟩ : ByteArray).toList.isEmpty = false := by
    rw [ByteArray.toList_eq]
    cases v with
    | nil => simp at h1
    | cons a l => rfl
  obtain ⟨N, hNN⟩ : ∃ N, N = hexN v := ⟨_, rfl⟩
  rw [← hNN] at hN ⊢
  have HNN := Lib.hid hNN
  obtain ⟨sv, hsv⟩ : ∃ sv : ByteArray, sv = ⟨v.toArray⟩ := ⟨_, rfl⟩
  revert hp
  rw [← hsv] at hne hsz PU ⊢
  intro hp h43 h45
  have n1 : (1 : Int) ≤ (sv.size : Int) := by omega
  obtain ⟨b, hb⟩ : ∃ b : UInt8, b = sv[0]'hp := ⟨_, rfl⟩
  rw [← hb] at h43 h45
  clear hsv
  have hb' := hb.symm
  have b1 : decide ((2147483648 : Int) ≤ (N : Int)) = false := by simp; omega
  have b2 : (N : Int) < 16777216 := by omega
  have b3 : (0 : Int) ≤ (N : Int) := by omega
  clear h1 h6 hx hN hNN hb hsz
  have h43' : ((b.toNat : Int) == 43) = false := h43
  have h45' : ((b.toNat : Int) == 45) = false := h45
  clear h43 h45
  go_enter Tryd.func51, Tryd.ntmps51
  go_wp2_with (go_at_call 70; go_must (refine PU.out.mono ?_; rintro e w1 ⟨rfl, hb_⟩; rw [← HNN.out]; have HB := Lib.hid hb_; clear hb_))
  go_ret2
  exact ⟨rfl, HB.out⟩
set_option maxRecDepth 100000 in
theorem parseI (v : List UInt8) (w : World) (h1 : 1 ≤ v.length) (h6 : v.length ≤ 6) (hx : ∀ c ∈ v, hexB c = true) :
    Calls Tryd.prog 34 #[.string ⟨v.toArray⟩, .int .i64 16, .int .i64 32] w fun e w' => e = .returned (.tuple #[.int .i64 (hexN v : Int), .nilIface]) ∧ Below w.heap.size w w' := by
  have PU := Lib.hid (parseI0 v w h1 h6 hx)
  clear h1 h6 hx
  go_enter Tryd.func34, Tryd.ntmps34
  go_wp2_with (go_at_call 51; go_must (refine PU.out.mono ?_; rintro e w1 ⟨rfl, hb_⟩; have HB := Lib.hid hb_; clear hb_))
  go_ret2
  exact ⟨rfl, HB.out⟩
set_option maxRecDepth 100000 in
set_option maxHeartbeats 1000000 in
theorem ib10d (w : World) (g : Nat) (s : PS) (W H B : Value) (c : UInt8) (P : Par w g s W H B) (hst : s.st = 10) (h0 : ((c.toNat : Int) == 13) = true) (h1 : decide ((0 : Int) < (s.wd.length : Int)) = true) (h6 : s.wd.length ≤ 6) (hx : ∀ c ∈ s.wd, hexB c = true) : Calls Tryd.prog 23 #[.pointer (some ⟨g, 0, none⟩), .int .u8 (c.toNat : Int)] w (PPost g W H B w (({ s with lf := (hexN s.wd : Int), wd := [], st := 11 }, (0 : Int))).1 (.int .i64 (({ s with lf := (hexN s.wd : Int), wd := [], st := 11 }, (0 : Int))).2)) := by
  have HP := Lib.hid P
  have H6 := Lib.hid h6
  have HX := Lib.hid hx
  have e_ := P.at_
  rw [hst] at e_
  obtain ⟨e0, _, _, e3, _, _, _, _, _, _, _⟩ := e_
  obtain ⟨n, hn⟩ : ∃ n, n = s.wd.length := ⟨_, rfl⟩
  rw [← hn] at h1
  have i1 : (0 : Int) < (n : Int) := by simpa using h1
  have HPOS : Hid (1 ≤ s.wd.length) := by show 1 ≤ _; omega
  clear h1
  obtain ⟨A, cW, hW, _, _⟩ := own8_form' (n := n) P.wd hn.symm
  subst hW
  clear P h6 hx hst hn
  obtain ⟨N, hN⟩ : ∃ N, N = hexN s.wd := ⟨_, rfl⟩
  have HN := Lib.hid hN
  rw [← hN]
  clear hN
  go_enter Tryd.func23, Tryd.ntmps23
  go_wp2_with (first
    | (go_at_call 25; go_must (refine (done_st _ g s _ H B 11 HP.out).mono ?_; rintro e w1 ⟨rfl, P1, S1⟩; have HP1 := Lib.hid P1; have HS1 := Lib.hid S1; clear P1 S1))
    | (go_at_call 34; go_must (refine (parseI s.wd w1 HPOS.out H6.out HX.out).mono ?_; rintro e w2 ⟨rfl, hb⟩; rw [← HN.out]; have PA := HP1.out.below hb; have eA := PA.at_.2.2.2.2.2.2.2.2.2.2; have fA := PA.fz 10; have SA := PA.set (s' := { s with lf := (N : Int), wd := [], st := 11 }) 10 (.int .i64 (N : Int)) rfl rfl rfl rfl; have G2 := Lib.hid (And.intro SA.1 ((HS1.out.trans (PStep.of_below hb)).trans SA.2)); clear hb PA SA)))
  go_ret
  exact ⟨rfl, _, H, B, G2.out.1, G2.out.2⟩
theorem body_any (w : World) (g : Nat) (s : PS) (W H B : Value) (c : UInt8) (P : Par w g s W H B) (hl : s.wd.length + 1 ≤ 140737488355328) (hb : s.bd.length + 1 ≤ 140737488355328) (l0 : -1 ≤ s.lf) (l1 : s.lf ≤ 1000000000) (hw : s.st = 10 → s.wd.length ≤ 6 ∧ ∀ b ∈ s.wd, hexB b = true) (hs : s.st = 0 ∨ s.st = 1 ∨ 9 ≤ s.st ∧ s.st ≤ 14) :
    Calls Tryd.prog 23 #[.pointer (some ⟨g, 0, none⟩), .int .u8 (c.toNat : Int)] w (PPost g W H B w (inBodyP s c).1 (.int .i64 (inBodyP s c).2)) := by
  unfold inBodyP
  by_cases e0 : s.st = 0
  · rw [if_pos e0]; exact ib0 w g s W H B c P hl e0
  rw [if_neg e0]
  by_cases e1 : s.st = 1
  · rw [if_pos e1]; exact ib1 w g s W H B c P hl e1
  rw [if_neg e1]
  by_cases e9 : s.st = 9 ∨ s.st = 12
  · rw [if_pos e9]
    unfold body9
    rcases e9 with e9 | e9
    · rw [if_neg (by omega)]
      cases hz : (s.lf - 1 == 0)
      · exact ib9n w g s W H B c P hb l0 l1 e9 hz
      · exact ib9z w g s W H B c P hb l0 l1 e9 hz
    · cases hz : (s.lf - 1 == 0)
      · rw [if_neg (by simp at hz; omega)]
        exact ib12n w g s W H B c P hb l0 l1 e9 hz
      · rw [if_pos ⟨by simpa using hz, e9⟩]
        exact ib12z w g s W H B c P hb l0 l1 e9 hz
  rw [if_neg e9]
  by_cases e10 : s.st = 10
  · rw [if_pos e10]
    obtain ⟨h6, hx⟩ := hw e10
    unfold body10
    cases h0 : ((c.toNat : Int) == 13)
    · rw [Bool.false_and, if_neg (by decide)]
      unfold hexB
      cases h1 : digitB c
      · rw [Bool.false_or]
        cases h2 : letterB c
        · exact ib10b2 w g s W H B c P hl e10 h0 h1 h2
        · rw [Bool.true_and]
          cases h3 : decide (lowI c ≤ 102)
          · exact ib10b3 w g s W H B c P hl e10 h0 h1 h2 h3
          · rw [Bool.true_and]
            cases h4 : decide ((s.wd.length : Int) < 6)
            · exact ib10b5 w g s W H B c P hl e10 h0 h1 h2 h3 h4
            · exact ib10b4 w g s W H B c P hl e10 h0 h1 h2 h3 h4
      · rw [Bool.true_or, Bool.true_and]
        cases h4 : decide ((s.wd.length : Int) < 6)
        · exact ib10b1 w g s W H B c P hl e10 h0 h1 h4
        · exact ib10b0 w g s W H B c P hl e10 h0 h1 h4
    · rw [Bool.true_and]
      have hc : c = 13 := UInt8.toNat_inj.1 (by simp at h0; show c.toNat = 13; omega)
      cases h1 : decide ((0 : Int) < (s.wd.length : Int))
      · rw [if_neg (by decide)]
        have h2 : digitB c = false := by rw [hc]; decide
        have h3 : letterB c = false := by rw [hc]; decide +kernel
        rw [show (hexB c && decide ((s.wd.length : Int) < 6)) = false from by unfold hexB; rw [h2, h3]; rfl]
        exact ib10c w g s W H B c P hl e10 h0 h1 h2 h3
      · rw [if_pos rfl]
        exact ib10d w g s W H B c P e10 h0 h1 h6 hx
  rw [if_neg e10]
  by_cases e11 : s.st = 11
  · rw [if_pos e11]
    unfold body11
    cases h0 : ((c.toNat : Int) != 10)
    · rw [if_neg (by decide)]
      cases h1 : decide (4096 < s.lf + (s.bd.length : Int))
      · rw [if_neg (by decide)]
        cases h2 : (s.lf == 0)
        · rw [if_neg (by decide)]; exact ib11b w g s W H B c P hb l0 l1 e11 h0 h1 h2
        · rw [if_pos rfl]; exact ib11c w g s W H B c P hb l0 l1 e11 h0 h1 h2
      · rw [if_pos rfl]; exact ib11a w g s W H B c P hb l0 l1 e11 h0 h1
    · rw [if_pos rfl]; exact ib11x w g s W H B c P hl e11 h0
  rw [if_neg e11]
  by_cases e13 : s.st = 13
  · rw [if_pos e13]; exact ib13 w g s W H B c P hl e13
  rw [if_neg e13]
  have e14 : s.st = 14 := by omega
  rw [if_pos e14]
  unfold body14
  by_cases hc : s.lf < 0
  · rw [if_pos hc]; exact ib14a w g s W H B c P hl e14 (by simpa using hc)
  · rw [if_neg hc]; exact ib14b w g s W H B c P hl e14 (by simpa using hc)
end Go.Proofs.YtjichadkonlfpaaDoor
