/- The texts N14 N15 of this work, merged by wip/merge.py. No conditions. -/
import Derived.Test.YtbpgbihcihnieaaQN12
import Derived.Laws.Cover3
namespace Go.Proofs.Ytbpgbihcihnieaa
open Go.RowKit
def EachNo (ls : List (List UInt8)) (p lo : Nat) (w : World) (e : Ending) (w' : World) : Prop := e = .returned (.tuple #[]) ∧ Fld w' p lo ls true ∧ Frm [p] w w'
set_option maxRecDepth 100000 in
set_option maxHeartbeats 1000000 in
theorem each_bad1 (F : Value) (X : Int) (x : List UInt8) (ls : List (List UInt8)) (p lo : Nat) (w : World) (h : Fld w p lo (x :: ls) true) :
    Calls Try.prog 62 #[.pointer (some ⟨p, 0, none⟩), .int .i64 X, F] w (EachNo ls p lo w) := by
  have H := Lib.hid h
  clear h
  go_enter Try.func62, Try.ntmps62
  go_wp2_with (go_at_call 51; go_must (refine (next_any x ls true p lo w H.out).mono ?_; rintro e w1 ⟨A, c, rfl, hc, hx, hf, hfr⟩; have G := Lib.hid (And.intro hf hfr); obtain ⟨e1, hfz⟩ := hf.bad_at; have h2 := Lib.hid (Fld.setBad true hf); obtain ⟨e2, hfz2⟩ := h2.out.1.bad_at; clear hc hx hf hfr))
  first
    | go_end0
    | (refine bodyPost_ret (results_none rfl _ _ _) rfl ?_)
  exact ⟨rfl, h2.out.1, G.out.2.trans h2.out.2⟩
theorem mod_ne {m n : Nat} (h : ¬ m % n = 0) : ((m : Int) % (n : Int) != 0) = true := by
  simp
  omega
theorem mod_eq {m n : Nat} (h : m % n = 0) : ((m : Int) % (n : Int) != 0) = false := by
  simp
  omega
set_option maxRecDepth 100000 in
set_option maxHeartbeats 1000000 in
theorem each_bad2 (F : Value) (n : Nat) (X : Int) (hX : X = (n : Int)) (hn : 0 < n) (x : List UInt8) (ls : List (List UInt8)) (p lo : Nat) (w : World) (h : Fld w p lo (x :: ls) false) (hm : ¬ x.length % n = 0) :
    Calls Try.prog 62 #[.pointer (some ⟨p, 0, none⟩), .int .i64 X, F] w (EachNo ls p lo w) := by
  have H := Lib.hid h
  have hI := mod_ne hm
  have hXn : (n : Int) ≠ 0 := by omega
  subst hX
  clear h hm
  go_enter Try.func62, Try.ntmps62
  go_wp2_with (go_at_call 51; go_must (refine (next_any x ls false p lo w H.out).mono ?_; rintro e w1 ⟨A, c, rfl, hc, hx, hf, hfr⟩; have G := Lib.hid (And.intro hf hfr); obtain ⟨e1, hfz⟩ := hf.bad_at; have h2 := Lib.hid (Fld.setBad true hf); obtain ⟨e2, hfz2⟩ := h2.out.1.bad_at; clear hc hx hf hfr))
  first
    | go_end0
    | (refine bodyPost_ret (results_none rfl _ _ _) rfl ?_)
  exact ⟨rfl, h2.out.1, G.out.2.trans h2.out.2⟩
def lenV : Value → Nat
  | .slice _ n _ => n
  | _ => 0
theorem RdI.back {lo hi : Nat} {w w' : World} {A : Option Addr} {xs : List Value} {ps : List Nat} (h : RdI lo hi w' A xs) (hf : Frm ps w w') (hhi : hi ≤ w.heap.size) (hp : ∀ p ∈ ps, p < lo ∨ hi ≤ p) : RdI lo hi w A xs := fun h0 => by
  obtain ⟨b, off, rfl, h1, h2, h3⟩ := h h0
  refine ⟨b, off, rfl, h1, h2, fun j u hu => ?_⟩
  have h4 := hf.block b (by omega) (fun hb => by have := hp b hb; omega)
  rw [← World.cell?_of_block (a := ⟨b, off + j, none⟩) h4]
  exact h3 j u hu
theorem RdI.chunk {lo hi b off : Nat} {w : World} {x : List UInt8} {k s : Nat} (h1 : lo ≤ b) (h2 : b < hi) (h : ∀ j u, (bvs x)[j]? = some u → w.cell? ⟨b, off + j, none⟩ = some u) : RdI lo hi w (some ⟨b, off + k, none⟩) (bvs ((x.drop k).take s)) := fun _ => by
  refine ⟨b, off + k, rfl, h1, h2, fun j u hu => ?_⟩
  rw [Nat.add_assoc]
  refine h (k + j) u ?_
  rw [← hu]
  have hj : j < s := by
    rcases Nat.lt_or_ge j s with h' | h'
    · exact h'
    · rw [List.getElem?_eq_none (by rw [bvs_length, List.length_take]; omega)] at hu; cases hu
  simp only [bvs, List.getElem?_map, List.getElem?_take, if_pos hj, List.getElem?_drop]
set_option maxRecDepth 100000 in
set_option maxHeartbeats 1000000 in
theorem each64 (x : List UInt8) (ls : List (List UInt8)) (p lo s0 : Nat) (w : World) (h : Fld w p lo (x :: ls) false) (hm : x.length % 64 = 0) (hx : x.length ≤ 140737488355328) (I : Nat → World → Prop)
    (h0 : ∀ w', Fld w' p lo ls false → Frm [p] w w' → I 0 w') (hI : ∀ k w', I k w' → ∃ ps, Frm ps w w' ∧ ∀ q ∈ ps, q < lo ∨ p ≤ q)
    (hs : ∀ k w' A c, k < x.length / 64 → I k w' → 64 ≤ c → RdI lo p w' A (bvs ((x.drop (k * 64)).take 64)) → Calls Try.prog 72 #[.slice A 64 c, .pointer (some ⟨s0, 0, none⟩)] w' (fun e w'' => e = .returned (.tuple #[]) ∧ I (k + 1) w'')) :
    Calls Try.prog 62 #[.pointer (some ⟨p, 0, none⟩), .int .i64 64, .func (.func 72) #[] #[.pointer (some ⟨s0, 0, none⟩)]] w (fun e w' => e = .returned (.tuple #[]) ∧ I (x.length / 64) w') := by
  have H := Lib.hid h
  have HI := Lib.hid hI
  have H0 := Lib.hid h0
  have HS := Lib.hid hs
  have Hx := Lib.hid hx
  have HMod := Lib.hid hm
  obtain ⟨m, hm2⟩ : ∃ m, x.length = m * 64 := ⟨x.length / 64, by omega⟩
  have HM := Lib.hid hm2
  have hI2 : ((x.length : Int) % 64 != 0) = false := mod_eq (n := 64) hm
  clear h hI h0 hs hx hm hm2
  go_enter Try.func62, Try.ntmps62
  go_wp2_with (go_at_call 51; go_must (refine (next_any x ls false p lo w H.out).mono ?_; rintro e w1 ⟨A, c, rfl, hc, hx, hf, hfr⟩; obtain ⟨e1, hfz⟩ := hf.bad_at; have h2 := Lib.hid (Fld.setBad false hf); obtain ⟨e2, hfz2⟩ := h2.out.1.bad_at; have RX := Lib.hid (hx.back (w := w) hfr (Nat.le_of_lt H.out.lt) (by simp)); have HC := Lib.hid hc; have I0 := Lib.hid (H0.out _ h2.out.1 (hfr.trans h2.out.2)); clear hc hx hf hfr))
  go_loopw [6] (fun v wr => ∃ k : Nat, k ≤ m ∧ I k wr ∧ ∃ A' c', v = .slice A' ((m - k) * 64) c' ∧ (k < m → ∃ b off, A = some ⟨b, off, none⟩ ∧ A' = some ⟨b, off + k * 64, none⟩ ∧ (m - k) * 64 ≤ c')) (fun v _ => lenV v)
  case atStart =>
    refine ⟨0, Nat.zero_le _, I0.out, A, c, by rw [HM.out, Nat.sub_zero], fun h0 => ?_⟩
    obtain ⟨b, off, rfl, _⟩ := RX.out (by rw [bvs_length, HM.out]; omega)
    exact ⟨b, off, rfl, by rw [Nat.zero_mul, Nat.add_zero], by rw [Nat.sub_zero, ← HM.out]; exact HC.out⟩
  case round =>
    obtain ⟨k, hk, hIk, A', c', rfl, hA⟩ := hrel
    have HIk := Lib.hid hIk
    clear hIk
    by_cases hlt : k < m
    · obtain ⟨b, off, rfl, rfl, hc'⟩ := hA hlt
      obtain ⟨r, hr⟩ : ∃ r, (m - k) * 64 = r := ⟨_, rfl⟩
      have HR := Lib.hid hr
      have hr1 : 64 ≤ r := by omega
      have hr0 : (0 : Int) < (r : Int) := by omega
      have hr2 : (64 : Int) ≤ (r : Int) := by omega
      have hr3 : (r : Int) ≤ 140737488355328 := by have h_ := HM.out; have h2_ := Hx.out; omega
      rw [hr] at hc' ⊢
      have hc2 : (64 : Int) ≤ (c' : Int) := by omega
      have hc3 : (r : Int) ≤ (c' : Int) := by omega
      have HK := Lib.hid (And.intro hk hlt)
      have HC' := Lib.hid hc'
      have RC : Hid (RdI lo p wr (some ⟨b, off + k * 64, none⟩) (bvs ((x.drop (k * 64)).take 64))) := by
        obtain ⟨ps, hf, hps⟩ := HI.out k wr HIk.out
        obtain ⟨b2, off2, he, h1, h2, h3⟩ := (RX.out.keep hf (Nat.le_of_lt H.out.lt) hps) (by rw [bvs_length, HM.out]; omega)
        cases he
        exact RdI.chunk h1 h2 h3
      clear hA hr hk hlt hc'
      obtain ⟨o, ho⟩ : ∃ o, off + k * 64 = o := ⟨_, rfl⟩
      have HO := Lib.hid ho
      rw [ho] at RC ⊢
      clear ho
      by_cases hce : c' = 64
      · subst hce
        go_wp2_with (go_at_call 72; go_must (refine (HS.out k wr _ _ (by have h_ := HK.out; have h2_ := HM.out; omega) HIk.out (by omega) RC.out).mono ?_; rintro e w5 ⟨rfl, hI5⟩; have HI5 := Lib.hid hI5; clear hI5))
        go_roundw
        case rel => exact ⟨k + 1, by have h_ := HK.out; omega, HI5.out, _, _, by rw [show r - 64 = (m - (k + 1)) * 64 from by have h_ := HR.out; omega], fun h0 => by have h_ := HC'.out; have h2_ := HR.out; omega⟩
        case measure => simp only [lenV]; omega
      · go_wp2_with (go_at_call 72; go_must (refine (HS.out k wr _ _ (by have h_ := HK.out; have h2_ := HM.out; omega) HIk.out (by omega) RC.out).mono ?_; rintro e w5 ⟨rfl, hI5⟩; have HI5 := Lib.hid hI5; clear hI5))
        go_roundw
        case rel => exact ⟨k + 1, by have h_ := HK.out; omega, HI5.out, _, _, by rw [show r - 64 = (m - (k + 1)) * 64 from by have h_ := HR.out; omega], fun h0 => ⟨b, off, rfl, by rw [← HO.out, show off + (k + 1) * 64 = off + k * 64 + 64 from by omega], by have h_ := HC'.out; have h2_ := HR.out; omega⟩⟩
        case measure => simp only [lenV]; omega
    · obtain rfl : k = m := by omega
      clear hA
      rw [Nat.sub_self, Nat.zero_mul]
      go_wp2
      first
        | go_end0
        | (refine bodyPost_ret (results_none rfl _ _ _) rfl ?_)
      refine ⟨rfl, ?_⟩
      rw [HM.out, Nat.mul_div_cancel _ (by omega : 0 < 64)]
      exact HIk.out
set_option maxRecDepth 100000 in
set_option maxHeartbeats 1000000 in
theorem each96 (x : List UInt8) (ls : List (List UInt8)) (p lo s0 : Nat) (w : World) (h : Fld w p lo (x :: ls) false) (hm : x.length % 96 = 0) (hx : x.length ≤ 140737488355328) (I : Nat → World → Prop)
    (h0 : ∀ w', Fld w' p lo ls false → Frm [p] w w' → I 0 w') (hI : ∀ k w', I k w' → ∃ ps, Frm ps w w' ∧ ∀ q ∈ ps, q < lo ∨ p ≤ q)
    (hs : ∀ k w' A c, k < x.length / 96 → I k w' → 96 ≤ c → RdI lo p w' A (bvs ((x.drop (k * 96)).take 96)) → Calls Try.prog 83 #[.slice A 96 c, .pointer (some ⟨s0, 0, none⟩)] w' (fun e w'' => e = .returned (.tuple #[]) ∧ I (k + 1) w'')) :
    Calls Try.prog 62 #[.pointer (some ⟨p, 0, none⟩), .int .i64 96, .func (.func 83) #[] #[.pointer (some ⟨s0, 0, none⟩)]] w (fun e w' => e = .returned (.tuple #[]) ∧ I (x.length / 96) w') := by
  have H := Lib.hid h
  have HI := Lib.hid hI
  have H0 := Lib.hid h0
  have HS := Lib.hid hs
  have Hx := Lib.hid hx
  have HMod := Lib.hid hm
  obtain ⟨m, hm2⟩ : ∃ m, x.length = m * 96 := ⟨x.length / 96, by omega⟩
  have HM := Lib.hid hm2
  have hI2 : ((x.length : Int) % 96 != 0) = false := mod_eq (n := 96) hm
  clear h hI h0 hs hx hm hm2
  go_enter Try.func62, Try.ntmps62
  go_wp2_with (go_at_call 51; go_must (refine (next_any x ls false p lo w H.out).mono ?_; rintro e w1 ⟨A, c, rfl, hc, hx, hf, hfr⟩; obtain ⟨e1, hfz⟩ := hf.bad_at; have h2 := Lib.hid (Fld.setBad false hf); obtain ⟨e2, hfz2⟩ := h2.out.1.bad_at; have RX := Lib.hid (hx.back (w := w) hfr (Nat.le_of_lt H.out.lt) (by simp)); have HC := Lib.hid hc; have I0 := Lib.hid (H0.out _ h2.out.1 (hfr.trans h2.out.2)); clear hc hx hf hfr))
  go_loopw [6] (fun v wr => ∃ k : Nat, k ≤ m ∧ I k wr ∧ ∃ A' c', v = .slice A' ((m - k) * 96) c' ∧ (k < m → ∃ b off, A = some ⟨b, off, none⟩ ∧ A' = some ⟨b, off + k * 96, none⟩ ∧ (m - k) * 96 ≤ c')) (fun v _ => lenV v)
  case atStart =>
    refine ⟨0, Nat.zero_le _, I0.out, A, c, by rw [HM.out, Nat.sub_zero], fun h0 => ?_⟩
    obtain ⟨b, off, rfl, _⟩ := RX.out (by rw [bvs_length, HM.out]; omega)
    exact ⟨b, off, rfl, by rw [Nat.zero_mul, Nat.add_zero], by rw [Nat.sub_zero, ← HM.out]; exact HC.out⟩
  case round =>
    obtain ⟨k, hk, hIk, A', c', rfl, hA⟩ := hrel
    have HIk := Lib.hid hIk
    clear hIk
    by_cases hlt : k < m
    · obtain ⟨b, off, rfl, rfl, hc'⟩ := hA hlt
      obtain ⟨r, hr⟩ : ∃ r, (m - k) * 96 = r := ⟨_, rfl⟩
      have HR := Lib.hid hr
      have hr1 : 96 ≤ r := by omega
      have hr0 : (0 : Int) < (r : Int) := by omega
      have hr2 : (96 : Int) ≤ (r : Int) := by omega
      have hr3 : (r : Int) ≤ 140737488355328 := by have h_ := HM.out; have h2_ := Hx.out; omega
      rw [hr] at hc' ⊢
      have hc2 : (96 : Int) ≤ (c' : Int) := by omega
      have hc3 : (r : Int) ≤ (c' : Int) := by omega
      have HK := Lib.hid (And.intro hk hlt)
      have HC' := Lib.hid hc'
      have RC : Hid (RdI lo p wr (some ⟨b, off + k * 96, none⟩) (bvs ((x.drop (k * 96)).take 96))) := by
        obtain ⟨ps, hf, hps⟩ := HI.out k wr HIk.out
        obtain ⟨b2, off2, he, h1, h2, h3⟩ := (RX.out.keep hf (Nat.le_of_lt H.out.lt) hps) (by rw [bvs_length, HM.out]; omega)
        cases he
        exact RdI.chunk h1 h2 h3
      clear hA hr hk hlt hc'
      obtain ⟨o, ho⟩ : ∃ o, off + k * 96 = o := ⟨_, rfl⟩
      have HO := Lib.hid ho
      rw [ho] at RC ⊢
      clear ho
      by_cases hce : c' = 96
      · subst hce
        go_wp2_with (go_at_call 83; go_must (refine (HS.out k wr _ _ (by have h_ := HK.out; have h2_ := HM.out; omega) HIk.out (by omega) RC.out).mono ?_; rintro e w5 ⟨rfl, hI5⟩; have HI5 := Lib.hid hI5; clear hI5))
        go_roundw
        case rel => exact ⟨k + 1, by have h_ := HK.out; omega, HI5.out, _, _, by rw [show r - 96 = (m - (k + 1)) * 96 from by have h_ := HR.out; omega], fun h0 => by have h_ := HC'.out; have h2_ := HR.out; omega⟩
        case measure => simp only [lenV]; omega
      · go_wp2_with (go_at_call 83; go_must (refine (HS.out k wr _ _ (by have h_ := HK.out; have h2_ := HM.out; omega) HIk.out (by omega) RC.out).mono ?_; rintro e w5 ⟨rfl, hI5⟩; have HI5 := Lib.hid hI5; clear hI5))
        go_roundw
        case rel => exact ⟨k + 1, by have h_ := HK.out; omega, HI5.out, _, _, by rw [show r - 96 = (m - (k + 1)) * 96 from by have h_ := HR.out; omega], fun h0 => ⟨b, off, rfl, by rw [← HO.out, show off + (k + 1) * 96 = off + k * 96 + 96 from by omega], by have h_ := HC'.out; have h2_ := HR.out; omega⟩⟩
        case measure => simp only [lenV]; omega
    · obtain rfl : k = m := by omega
      clear hA
      rw [Nat.sub_self, Nat.zero_mul]
      go_wp2
      first
        | go_end0
        | (refine bodyPost_ret (results_none rfl _ _ _) rfl ?_)
      refine ⟨rfl, ?_⟩
      rw [HM.out, Nat.mul_div_cancel _ (by omega : 0 < 96)]
      exact HIk.out
set_option maxRecDepth 100000 in
set_option maxHeartbeats 1000000 in
theorem each66 (x : List UInt8) (ls : List (List UInt8)) (p lo s0 s1 : Nat) (w : World) (h : Fld w p lo (x :: ls) false) (hm : x.length % 66 = 0) (hx : x.length ≤ 140737488355328) (I : Nat → World → Prop)
    (h0 : ∀ w', Fld w' p lo ls false → Frm [p] w w' → I 0 w') (hI : ∀ k w', I k w' → ∃ ps, Frm ps w w' ∧ ∀ q ∈ ps, q < lo ∨ p ≤ q)
    (hs : ∀ k w' A c, k < x.length / 66 → I k w' → 66 ≤ c → RdI lo p w' A (bvs ((x.drop (k * 66)).take 66)) → Calls Try.prog 82 #[.slice A 66 c, .pointer (some ⟨s0, 0, none⟩), .pointer (some ⟨s1, 0, none⟩)] w' (fun e w'' => e = .returned (.tuple #[]) ∧ I (k + 1) w'')) :
    Calls Try.prog 62 #[.pointer (some ⟨p, 0, none⟩), .int .i64 66, .func (.func 82) #[] #[.pointer (some ⟨s0, 0, none⟩), .pointer (some ⟨s1, 0, none⟩)]] w (fun e w' => e = .returned (.tuple #[]) ∧ I (x.length / 66) w') := by
  have H := Lib.hid h
  have HI := Lib.hid hI
  have H0 := Lib.hid h0
  have HS := Lib.hid hs
  have Hx := Lib.hid hx
  have HMod := Lib.hid hm
  obtain ⟨m, hm2⟩ : ∃ m, x.length = m * 66 := ⟨x.length / 66, by omega⟩
  have HM := Lib.hid hm2
  have hI2 : ((x.length : Int) % 66 != 0) = false := mod_eq (n := 66) hm
  clear h hI h0 hs hx hm hm2
  go_enter Try.func62, Try.ntmps62
  go_wp2_with (go_at_call 51; go_must (refine (next_any x ls false p lo w H.out).mono ?_; rintro e w1 ⟨A, c, rfl, hc, hx, hf, hfr⟩; obtain ⟨e1, hfz⟩ := hf.bad_at; have h2 := Lib.hid (Fld.setBad false hf); obtain ⟨e2, hfz2⟩ := h2.out.1.bad_at; have RX := Lib.hid (hx.back (w := w) hfr (Nat.le_of_lt H.out.lt) (by simp)); have HC := Lib.hid hc; have I0 := Lib.hid (H0.out _ h2.out.1 (hfr.trans h2.out.2)); clear hc hx hf hfr))
  go_loopw [6] (fun v wr => ∃ k : Nat, k ≤ m ∧ I k wr ∧ ∃ A' c', v = .slice A' ((m - k) * 66) c' ∧ (k < m → ∃ b off, A = some ⟨b, off, none⟩ ∧ A' = some ⟨b, off + k * 66, none⟩ ∧ (m - k) * 66 ≤ c')) (fun v _ => lenV v)
  case atStart =>
    refine ⟨0, Nat.zero_le _, I0.out, A, c, by rw [HM.out, Nat.sub_zero], fun h0 => ?_⟩
    obtain ⟨b, off, rfl, _⟩ := RX.out (by rw [bvs_length, HM.out]; omega)
    exact ⟨b, off, rfl, by rw [Nat.zero_mul, Nat.add_zero], by rw [Nat.sub_zero, ← HM.out]; exact HC.out⟩
  case round =>
    obtain ⟨k, hk, hIk, A', c', rfl, hA⟩ := hrel
    have HIk := Lib.hid hIk
    clear hIk
    by_cases hlt : k < m
    · obtain ⟨b, off, rfl, rfl, hc'⟩ := hA hlt
      obtain ⟨r, hr⟩ : ∃ r, (m - k) * 66 = r := ⟨_, rfl⟩
      have HR := Lib.hid hr
      have hr1 : 66 ≤ r := by omega
      have hr0 : (0 : Int) < (r : Int) := by omega
      have hr2 : (66 : Int) ≤ (r : Int) := by omega
      have hr3 : (r : Int) ≤ 140737488355328 := by have h_ := HM.out; have h2_ := Hx.out; omega
      rw [hr] at hc' ⊢
      have hc2 : (66 : Int) ≤ (c' : Int) := by omega
      have hc3 : (r : Int) ≤ (c' : Int) := by omega
      have HK := Lib.hid (And.intro hk hlt)
      have HC' := Lib.hid hc'
      have RC : Hid (RdI lo p wr (some ⟨b, off + k * 66, none⟩) (bvs ((x.drop (k * 66)).take 66))) := by
        obtain ⟨ps, hf, hps⟩ := HI.out k wr HIk.out
        obtain ⟨b2, off2, he, h1, h2, h3⟩ := (RX.out.keep hf (Nat.le_of_lt H.out.lt) hps) (by rw [bvs_length, HM.out]; omega)
        cases he
        exact RdI.chunk h1 h2 h3
      clear hA hr hk hlt hc'
      obtain ⟨o, ho⟩ : ∃ o, off + k * 66 = o := ⟨_, rfl⟩
      have HO := Lib.hid ho
      rw [ho] at RC ⊢
      clear ho
      by_cases hce : c' = 66
      · subst hce
        go_wp2_with (go_at_call 82; go_must (refine (HS.out k wr _ _ (by have h_ := HK.out; have h2_ := HM.out; omega) HIk.out (by omega) RC.out).mono ?_; rintro e w5 ⟨rfl, hI5⟩; have HI5 := Lib.hid hI5; clear hI5))
        go_roundw
        case rel => exact ⟨k + 1, by have h_ := HK.out; omega, HI5.out, _, _, by rw [show r - 66 = (m - (k + 1)) * 66 from by have h_ := HR.out; omega], fun h0 => by have h_ := HC'.out; have h2_ := HR.out; omega⟩
        case measure => simp only [lenV]; omega
      · go_wp2_with (go_at_call 82; go_must (refine (HS.out k wr _ _ (by have h_ := HK.out; have h2_ := HM.out; omega) HIk.out (by omega) RC.out).mono ?_; rintro e w5 ⟨rfl, hI5⟩; have HI5 := Lib.hid hI5; clear hI5))
        go_roundw
        case rel => exact ⟨k + 1, by have h_ := HK.out; omega, HI5.out, _, _, by rw [show r - 66 = (m - (k + 1)) * 66 from by have h_ := HR.out; omega], fun h0 => ⟨b, off, rfl, by rw [← HO.out, show off + (k + 1) * 66 = off + k * 66 + 66 from by omega], by have h_ := HC'.out; have h2_ := HR.out; omega⟩⟩
        case measure => simp only [lenV]; omega
    · obtain rfl : k = m := by omega
      clear hA
      rw [Nat.sub_self, Nat.zero_mul]
      go_wp2
      first
        | go_end0
        | (refine bodyPost_ret (results_none rfl _ _ _) rfl ?_)
      refine ⟨rfl, ?_⟩
      rw [HM.out, Nat.mul_div_cancel _ (by omega : 0 < 66)]
      exact HIk.out
set_option maxRecDepth 100000 in
set_option maxHeartbeats 1000000 in
theorem each32 (x : List UInt8) (ls : List (List UInt8)) (p lo s0 : Nat) (w : World) (h : Fld w p lo (x :: ls) false) (hm : x.length % 32 = 0) (hx : x.length ≤ 140737488355328) (I : Nat → World → Prop)
    (h0 : ∀ w', Fld w' p lo ls false → Frm [p] w w' → I 0 w') (hI : ∀ k w', I k w' → ∃ ps, Frm ps w w' ∧ ∀ q ∈ ps, q < lo ∨ p ≤ q)
    (hs : ∀ k w' A c, k < x.length / 32 → I k w' → 32 ≤ c → RdI lo p w' A (bvs ((x.drop (k * 32)).take 32)) → Calls Try.prog 63 #[.slice A 32 c, .pointer (some ⟨s0, 0, none⟩)] w' (fun e w'' => e = .returned (.tuple #[]) ∧ I (k + 1) w'')) :
    Calls Try.prog 62 #[.pointer (some ⟨p, 0, none⟩), .int .i64 32, .func (.func 63) #[] #[.pointer (some ⟨s0, 0, none⟩)]] w (fun e w' => e = .returned (.tuple #[]) ∧ I (x.length / 32) w') := by
  have H := Lib.hid h
  have HI := Lib.hid hI
  have H0 := Lib.hid h0
  have HS := Lib.hid hs
  have Hx := Lib.hid hx
  have HMod := Lib.hid hm
  obtain ⟨m, hm2⟩ : ∃ m, x.length = m * 32 := ⟨x.length / 32, by omega⟩
  have HM := Lib.hid hm2
  have hI2 : ((x.length : Int) % 32 != 0) = false := mod_eq (n := 32) hm
  clear h hI h0 hs hx hm hm2
  go_enter Try.func62, Try.ntmps62
  go_wp2_with (go_at_call 51; go_must (refine (next_any x ls false p lo w H.out).mono ?_; rintro e w1 ⟨A, c, rfl, hc, hx, hf, hfr⟩; obtain ⟨e1, hfz⟩ := hf.bad_at; have h2 := Lib.hid (Fld.setBad false hf); obtain ⟨e2, hfz2⟩ := h2.out.1.bad_at; have RX := Lib.hid (hx.back (w := w) hfr (Nat.le_of_lt H.out.lt) (by simp)); have HC := Lib.hid hc; have I0 := Lib.hid (H0.out _ h2.out.1 (hfr.trans h2.out.2)); clear hc hx hf hfr))
  go_loopw [6] (fun v wr => ∃ k : Nat, k ≤ m ∧ I k wr ∧ ∃ A' c', v = .slice A' ((m - k) * 32) c' ∧ (k < m → ∃ b off, A = some ⟨b, off, none⟩ ∧ A' = some ⟨b, off + k * 32, none⟩ ∧ (m - k) * 32 ≤ c')) (fun v _ => lenV v)
  case atStart =>
    refine ⟨0, Nat.zero_le _, I0.out, A, c, by rw [HM.out, Nat.sub_zero], fun h0 => ?_⟩
    obtain ⟨b, off, rfl, _⟩ := RX.out (by rw [bvs_length, HM.out]; omega)
    exact ⟨b, off, rfl, by rw [Nat.zero_mul, Nat.add_zero], by rw [Nat.sub_zero, ← HM.out]; exact HC.out⟩
  case round =>
    obtain ⟨k, hk, hIk, A', c', rfl, hA⟩ := hrel
    have HIk := Lib.hid hIk
    clear hIk
    by_cases hlt : k < m
    · obtain ⟨b, off, rfl, rfl, hc'⟩ := hA hlt
      obtain ⟨r, hr⟩ : ∃ r, (m - k) * 32 = r := ⟨_, rfl⟩
      have HR := Lib.hid hr
      have hr1 : 32 ≤ r := by omega
      have hr0 : (0 : Int) < (r : Int) := by omega
      have hr2 : (32 : Int) ≤ (r : Int) := by omega
      have hr3 : (r : Int) ≤ 140737488355328 := by have h_ := HM.out; have h2_ := Hx.out; omega
      rw [hr] at hc' ⊢
      have hc2 : (32 : Int) ≤ (c' : Int) := by omega
      have hc3 : (r : Int) ≤ (c' : Int) := by omega
      have HK := Lib.hid (And.intro hk hlt)
      have HC' := Lib.hid hc'
      have RC : Hid (RdI lo p wr (some ⟨b, off + k * 32, none⟩) (bvs ((x.drop (k * 32)).take 32))) := by
        obtain ⟨ps, hf, hps⟩ := HI.out k wr HIk.out
        obtain ⟨b2, off2, he, h1, h2, h3⟩ := (RX.out.keep hf (Nat.le_of_lt H.out.lt) hps) (by rw [bvs_length, HM.out]; omega)
        cases he
        exact RdI.chunk h1 h2 h3
      clear hA hr hk hlt hc'
      obtain ⟨o, ho⟩ : ∃ o, off + k * 32 = o := ⟨_, rfl⟩
      have HO := Lib.hid ho
      rw [ho] at RC ⊢
      clear ho
      by_cases hce : c' = 32
      · subst hce
        go_wp2_with (go_at_call 63; go_must (refine (HS.out k wr _ _ (by have h_ := HK.out; have h2_ := HM.out; omega) HIk.out (by omega) RC.out).mono ?_; rintro e w5 ⟨rfl, hI5⟩; have HI5 := Lib.hid hI5; clear hI5))
        go_roundw
        case rel => exact ⟨k + 1, by have h_ := HK.out; omega, HI5.out, _, _, by rw [show r - 32 = (m - (k + 1)) * 32 from by have h_ := HR.out; omega], fun h0 => by have h_ := HC'.out; have h2_ := HR.out; omega⟩
        case measure => simp only [lenV]; omega
      · go_wp2_with (go_at_call 63; go_must (refine (HS.out k wr _ _ (by have h_ := HK.out; have h2_ := HM.out; omega) HIk.out (by omega) RC.out).mono ?_; rintro e w5 ⟨rfl, hI5⟩; have HI5 := Lib.hid hI5; clear hI5))
        go_roundw
        case rel => exact ⟨k + 1, by have h_ := HK.out; omega, HI5.out, _, _, by rw [show r - 32 = (m - (k + 1)) * 32 from by have h_ := HR.out; omega], fun h0 => ⟨b, off, rfl, by rw [← HO.out, show off + (k + 1) * 32 = off + k * 32 + 32 from by omega], by have h_ := HC'.out; have h2_ := HR.out; omega⟩⟩
        case measure => simp only [lenV]; omega
    · obtain rfl : k = m := by omega
      clear hA
      rw [Nat.sub_self, Nat.zero_mul]
      go_wp2
      first
        | go_end0
        | (refine bodyPost_ret (results_none rfl _ _ _) rfl ?_)
      refine ⟨rfl, ?_⟩
      rw [HM.out, Nat.mul_div_cancel _ (by omega : 0 < 32)]
      exact HIk.out
end Go.Proofs.Ytbpgbihcihnieaa

namespace Go.Proofs.Ytbpgbihcihnieaa
open Go.RowKit
/-- Below B only the blocks of ps were written through. -/
structure Frb (B : Nat) (ps : List Nat) (w w' : World) : Prop where
  os : w'.os = w.os
  tape : w'.tape = w.tape
  output : w'.output = w.output
  size : w.heap.size ≤ w'.heap.size
  block : ∀ k, k < B → k ∉ ps → w'.heap[k]? = w.heap[k]?
theorem Frb.of_below {B : Nat} {ps : List Nat} {w w' : World} (h : Below B w w') : Frb B ps w w' := ⟨h.os, h.tape, h.output, h.size, fun k hk _ => h.block k hk⟩
theorem Frb.of_frm {B : Nat} {ps : List Nat} {w w' : World} (h : Frm ps w w') (hB : B ≤ w.heap.size) : Frb B ps w w' := ⟨h.os, h.tape, h.output, h.size, fun k hk hn => h.block k (by omega) hn⟩
theorem Frb.trans {B : Nat} {ps : List Nat} {a b c : World} (h : Frb B ps a b) (k : Frb B ps b c) : Frb B ps a c :=
  ⟨k.os.trans h.os, k.tape.trans h.tape, k.output.trans h.output, Nat.le_trans h.size k.size, fun i hi hn => (k.block i hi hn).trans (h.block i hi hn)⟩
theorem Frb.more {B : Nat} {ps qs : List Nat} {w w' : World} (h : Frb B ps w w') (hs : ∀ p ∈ ps, p ∈ qs) : Frb B qs w w' := ⟨h.os, h.tape, h.output, h.size, fun k hk hn => h.block k hk fun hp => hn (hs k hp)⟩
theorem Frm.frb {ps : List Nat} {a b c : World} (h : Frm ps a b) (k : Frb a.heap.size ps b c) : Frm ps a c :=
  ⟨k.os.trans h.os, k.tape.trans h.tape, k.output.trans h.output, Nat.le_trans h.size k.size, fun i hi hn => (k.block i hi hn).trans (h.block i hi hn)⟩
theorem Frb.heap {B : Nat} {ps : List Nat} {w w' : World} {b : Nat} {o : Obj} (h : Frb B ps w w') (hb : w.heap[b]? = some o) (hB : b < B) (hn : b ∉ ps) : w'.heap[b]? = some o := (h.block b hB hn).trans hb
theorem Fld.keepB {B : Nat} {w w' : World} {p lo : Nat} {ls : List (List UInt8)} {bad : Bool} {ps : List Nat} (h : Fld w p lo ls bad) (hf : Frb B ps w w') (hB : p < B) (hp : ∀ q ∈ ps, q < lo ∨ p < q) : Fld w' p lo ls bad := by
  obtain ⟨A, c, h1, h2, h3⟩ := h.cells
  refine ⟨⟨A, c, hf.heap h1 hB (fun hq => by have := hp p hq; have := h.lo; omega), h2, fun h0 => ?_⟩, h.lo⟩
  obtain ⟨b, off, rfl, k1, k2, k3⟩ := h3 h0
  refine ⟨b, off, rfl, k1, k2, fun k hk => ?_⟩
  obtain ⟨A', c', h4, h5, h6⟩ := k3 k hk
  have h7 := hf.block b (by omega) (fun hb => by have := hp b hb; omega)
  refine ⟨A', c', (World.cell?_of_block (a := ⟨b, off + k, none⟩) h7).trans h4, h5, fun h0 => ?_⟩
  obtain ⟨b2, off2, rfl, j1, j2, j3⟩ := h6 h0
  refine ⟨b2, off2, rfl, j1, j2, fun j u hu => ?_⟩
  have h8 := hf.block b2 (by omega) (fun hb => by have := hp b2 hb; omega)
  rw [World.cell?_of_block (a := ⟨b2, off2 + j, none⟩) h8]
  exact j3 j u hu
theorem below_drawn (w : World) (k : Nat) : Below w.heap.size w { w with drawn := k } := ⟨rfl, rfl, rfl, Nat.le_refl _, fun _ _ => rfl⟩
def AppPost (B s i : Nat) (t e : TypeId) (sz n : Nat) (xs ys : List Value) (C : Array Value) (w : World) (en : Ending) (w' : World) : Prop :=
  en = .returned (.tuple #[]) ∧ ∃ v', w'.heap[s]? = some (.cells (C.setIfInBounds i v') t (0, 0)) ∧ w'.ownsRow B e sz v' (n + 1) (xs ++ ys) ∧ Frb B [s] w w'
theorem app_post {B s i n : Nat} {t e : TypeId} {sz : Nat} {xs ys : List Value} {C : Array Value} {v : Value} {w w5 : World} (hs : w.heap[s]? = some (.cells C t (0, 0))) (hsB : s < B) (hb : Below B w w5) (ho : w5.ownsRow B e sz v (n + 1) (xs ++ ys)) :
    AppPost B s i t e sz n xs ys C w (.returned (.tuple #[])) (w5.setCell ⟨s, i, none⟩ v) := by
  have h5 : w5.heap[s]? = some (.cells C t (0, 0)) := (hb.block s hsB).trans hs
  have hf := Frm.setCell w5 s i v
  refine ⟨rfl, v, heap_setCell_same w5 s i _ _ _ h5, ownR_frm ho hf (fun he => ?_), (Frb.of_below hb).trans ⟨hf.os, hf.tape, hf.output, hf.size, fun k hk hn => ?_⟩⟩
  · have h3 := (World.ownsRow.lt ho _ he).1
    omega
  · exact Below.heap_setCell w5 ⟨s, i, none⟩ v k (by simpa using hn)
theorem three_seg96 {ch : List UInt8} (h : ch.length = 96) : ch = seg ch 0 ++ (seg ch 32 ++ seg ch 64) := by
  have h1 := three_segs ch 0
  rw [List.take_of_length_le (by omega)] at h1
  simpa using h1
theorem two_seg64 {ch : List UInt8} (h : ch.length = 64) : ch = seg ch 0 ++ seg ch 32 := by
  have h1 := two_segs ch 0
  rw [List.take_of_length_le (by omega)] at h1
  simpa using h1
theorem one_seg32 {ch : List UInt8} (h : ch.length = 32) : ch = seg ch 0 := by
  unfold seg
  rw [List.drop_zero, List.take_of_length_le (by omega)]
set_option maxRecDepth 100000 in
set_option maxHeartbeats 2000000 in
theorem links1_any (A : Option Addr) (c lo hi s B n : Nat) (t : TypeId) (C : Array Value) (v : Value) (xs : List Value) (ch : List UInt8) (w : World) (hl : ch.length = 96) (hr : RdI lo hi w A (bvs ch)) (hhi : hi ≤ w.heap.size) (hc : 96 ≤ c) (hs : w.heap[s]? = some (.cells C t (0, 0))) (hv : C[0]? = some v)
    (ho : w.ownsRow B 121 96 v n xs) (hsB : s < B) (hB : B ≤ w.heap.size) (hn : (n + 1) * 96 ≤ 140737488355328) : Calls Try.prog 83 #[.slice A 96 c, .pointer (some ⟨s, 0, none⟩)] w (AppPost B s 0 t 121 96 n xs (bvs ch) C w) := by
  obtain ⟨b, off, rfl, _, hb2, hall⟩ := hr (by rw [bvs_length, hl]; decide)
  obtain ⟨Av, cv, rfl, hcv, _⟩ := ownR_form ho
  have HALL : Hid (∀ w', Below w.heap.size w w' → ∀ j u, (bvs ch)[j]? = some u → w'.cell? ⟨b, off + j, none⟩ = some u) := fun w' h' j u hu => (h'.cell (p := ⟨b, off + j, none⟩) (by show b < _; omega)).trans (hall j u hu)
  have E0 : Hid (∀ w', Below w.heap.size w w' → w'.cell? ⟨s, 0, none⟩ = some (.slice Av n cv)) := fun w' h' => by rw [cell_of_row w' s 0 _ _ _ (heap_below hs h')]; exact hv
  obtain ⟨q0, hq0⟩ : ∃ q : Array Value, q = (bvs (seg ch 0)).toArray := ⟨_, rfl⟩
  have Q0 := Lib.hid hq0
  have Z0 : Hid (q0.size = 32) := by show _ = _; rw [hq0]; simp [bvs_length, seg_length (bs := ch) (p := 0) (by omega)]
  obtain ⟨q1, hq1⟩ : ∃ q : Array Value, q = (bvs (seg ch 32)).toArray := ⟨_, rfl⟩
  have Q1 := Lib.hid hq1
  have Z1 : Hid (q1.size = 32) := by show _ = _; rw [hq1]; simp [bvs_length, seg_length (bs := ch) (p := 32) (by omega)]
  obtain ⟨q2, hq2⟩ : ∃ q : Array Value, q = (bvs (seg ch 64)).toArray := ⟨_, rfl⟩
  have Q2 := Lib.hid hq2
  have Z2 : Hid (q2.size = 32) := by show _ = _; rw [hq2]; simp [bvs_length, seg_length (bs := ch) (p := 64) (by omega)]
  obtain ⟨pc, hpc⟩ : ∃ pc : Array Value, pc = (bvs (seg ch 0 ++ (seg ch 32 ++ seg ch 64))).toArray := ⟨_, rfl⟩
  have HPB : Hid ((Try.prog).built 121 [(0, .agg q0), (1, .agg q1), (2, .agg q2)] = some pc) := by
    show _ = _
    rw [hq0, hq1, hq2, hpc]
    exact built_link (seg_length (by omega)) (seg_length (by omega)) (seg_length (by omega))
  have HP : Hid (pc = (bvs ch).toArray) := by show _ = _; rw [hpc, ← three_seg96 hl]
  have PZ : Hid (pc.size = 96) := by show _ = _; rw [HP.out]; simp [bvs_length, hl]
  have HC := Lib.hid hc
  have HS := Lib.hid (And.intro hs (And.intro hsB hB))
  have HO := Lib.hid ho
  have HN := Lib.hid hn
  have hcI : (96 : Int) ≤ (c : Int) := by omega
  
  have hc32 : ¬ c = 32 := by omega
  have hc64 : ¬ c = 64 := by omega
  clear hl hr hhi hc hs hv ho hsB hB hn hall hb2 hpc hcv hq0 hq1 hq2
  go_enter Try.func83, Try.ntmps83
  refine AnyZ.start [15, 16] (by kernel_rfl) rfl ?_
  apply AnyZ.take (i := 0) rfl (by kernel_rfl) (by kernel_rfl) rfl
  · intro w' hC K hK
    have e0 := E0.out w' ((below_drawn w _).trans hC)
    go_wp2
    exact hK
  · rfl
  apply AnyZ.take (i := 1) rfl (by kernel_rfl) (by kernel_rfl) rfl
  · intro w' hC K hK
    go_wp2
    exact hK
  · rfl
  apply AnyZ.take (i := 2) rfl (by kernel_rfl) (by kernel_rfl) rfl
  · intro w' hC K hK
    go_wp2
    exact hK
  · rfl
  apply AnyZ.take (i := 3) rfl (by kernel_rfl) (by kernel_rfl) rfl
  · intro w' hC K hK
    have hap := run_arrayAt (P := Try.prog) w' 44 5 32 (some ⟨b, off, none⟩) 32 c Try.underlying44 (Nat.le_refl _)
    go_wp2
    exact hK
  · rfl
  apply AnyZ.take (i := 4) rfl (by kernel_rfl) (by kernel_rfl) rfl
  · intro w' hC K hK
    refine wpList_load_arr rfl _ _ rfl b (off) rfl q0 _ (by rw [Q0.out]; exact flat_seg (k := 0) (by have h_ := PZ.out; rw [HP.out] at h_; simp [bvs_length] at h_; omega) (HALL.out w' ((below_drawn w _).trans hC))) Try.underlying44 rfl (by rw [Z0.out]; kernel_rfl) ?_
    go_wp2
    exact hK
  · rfl
  apply AnyZ.take (i := 5) rfl (by kernel_rfl) (by kernel_rfl) rfl
  · intro w' hC K hK
    go_wp2
    exact hK
  · rfl
  apply AnyZ.take (i := 6) rfl (by kernel_rfl) (by kernel_rfl) rfl
  · intro w' hC K hK
    go_wp2
    exact hK
  · rfl
  apply AnyZ.take (i := 7) rfl (by kernel_rfl) (by kernel_rfl) rfl
  · intro w' hC K hK
    have hap := run_arrayAt (P := Try.prog) w' 44 5 32 (some ⟨b, off + 32, none⟩) 32 (c - 32) Try.underlying44 (Nat.le_refl _)
    go_wp2
    exact hK
  · rfl
  apply AnyZ.take (i := 8) rfl (by kernel_rfl) (by kernel_rfl) rfl
  · intro w' hC K hK
    refine wpList_load_arr rfl _ _ rfl b (off + 32) rfl q1 _ (by rw [Q1.out]; exact flat_seg (k := 1) (by have h_ := PZ.out; rw [HP.out] at h_; simp [bvs_length] at h_; omega) (HALL.out w' ((below_drawn w _).trans hC))) Try.underlying44 rfl (by rw [Z1.out]; kernel_rfl) ?_
    go_wp2
    exact hK
  · rfl
  apply AnyZ.take (i := 9) rfl (by kernel_rfl) (by kernel_rfl) rfl
  · intro w' hC K hK
    go_wp2
    exact hK
  · rfl
  apply AnyZ.take (i := 10) rfl (by kernel_rfl) (by kernel_rfl) rfl
  · intro w' hC K hK
    go_wp2
    exact hK
  · rfl
  apply AnyZ.take (i := 11) rfl (by kernel_rfl) (by kernel_rfl) rfl
  · intro w' hC K hK
    have hap := run_arrayAt (P := Try.prog) w' 44 5 32 (some ⟨b, off + 64, none⟩) 32 (c - 64) Try.underlying44 (Nat.le_refl _)
    go_wp2
    exact hK
  · rfl
  apply AnyZ.take (i := 12) rfl (by kernel_rfl) (by kernel_rfl) rfl
  · intro w' hC K hK
    refine wpList_load_arr rfl _ _ rfl b (off + 64) rfl q2 _ (by rw [Q2.out]; exact flat_seg (k := 2) (by have h_ := PZ.out; rw [HP.out] at h_; simp [bvs_length] at h_; omega) (HALL.out w' ((below_drawn w _).trans hC))) Try.underlying44 rfl (by rw [Z2.out]; kernel_rfl) ?_
    go_wp2
    exact hK
  · rfl
  apply AnyZ.take (i := 13) rfl (by kernel_rfl) (by kernel_rfl) rfl
  · intro w' hC K hK
    refine wpList_build_to rfl _ _ rfl [(0, .agg q0), (1, .agg q1), (2, .agg q2)] rfl pc (by with_reducible exact HPB.out) ?_
    go_wp2
    exact hK
  · rfl
  apply AnyZ.solo (i := 14) rfl (by kernel_rfl)
  intro w2 hC2
  obtain ⟨i0, hi0, hz0, hz1, hz2⟩ := info_parts linfo
  refine slice1 (cs := pc) (s := 96) rfl rfl rfl PZ.out Try.underlying64 hi0 hz0 hz1 (by decide) ?_
  go_wp2
  refine ⟨rfl, hC2.alloc hC2.size _, ?_⟩
  have B2 := Lib.hid ((below_drawn w _).trans hC2)
  have N2 := Lib.hid (heap_alloc_new w2 (.cells pc 121))
  have A2 : Hid (Below w.heap.size w (w2.alloc (.cells pc 121))) := B2.out.alloc B2.out.size _
  clear hC2
  apply AnyZ.soloW (i := 15) rfl (by kernel_rfl)
  intro w3 hC3
  have B3 := Lib.hid (A2.out.trans (hC3.mono A2.out.size))
  have N3 := Lib.hid (heap_below N2.out hC3)
  have O3 := Lib.hid (ownR_below HO.out B3.out)
  clear hC3
  refine app1 (cs := pc) (n := n) (xs := xs) (base := B) rfl rfl rfl rfl Try.underlying64 hi0 hz0 hz1 hz2 (by simp [Value.cells, bvs_length]) (by decide) O3.out N3.out PZ.out (by rw [HP.out]; exact all_oneCell_toArray (bvs_one _)) (by have h_ := HN.out; omega) (by have h_ := HN.out; omega) (Nat.le_trans HS.out.2.2 B3.out.size) ?_
  intro v5 w5 hown hg hx
  have B5 : Hid (Below B w w5) := (B3.out.mono HS.out.2.2).grown hg (Nat.le_trans HS.out.2.2 B3.out.size) (fun k hk => (World.ownsRow.lt O3.out k hk).1)
  have O5 : Hid (w5.ownsRow B 121 96 v5 (n + 1) (xs ++ bvs ch)) := by
    have h_ := hown
    rw [HP.out] at h_
    exact h_
  obtain ⟨A5, c5, hv5, _, _⟩ := ownR_form O5.out
  subst hv5
  have S5 := Lib.hid ((B5.out.block s HS.out.2.1).trans HS.out.1)
  have e5 : w5.cell? ⟨s, 0, none⟩ = some (.slice Av n cv) := by rw [cell_of_row w5 s 0 _ _ _ S5.out]; rw [← cell_of_row w s 0 _ _ _ HS.out.1]; exact E0.out w (Below.refl _ _)
  have hfz := frozen_row S5.out 0
  clear hown hg hx
  go_wp2
  refine ⟨rfl, ?_⟩
  apply AnyW.solo (i := 16) rfl (by kernel_rfl)
  go_wp2
  refine ⟨rfl, ?_⟩
  refine AnyW.done (by kernel_rfl) ?_
  first
    | go_end0
    | (refine bodyPost_ret (results_none rfl _ _ _) rfl ?_)
  exact app_post HS.out.1 HS.out.2.1 B5.out O5.out
set_option maxRecDepth 100000 in
set_option maxHeartbeats 2000000 in
theorem step1_any (A : Option Addr) (c lo hi s B n : Nat) (t : TypeId) (C : Array Value) (v : Value) (xs : List Value) (ch : List UInt8) (w : World) (hl : ch.length = 64) (hr : RdI lo hi w A (bvs ch)) (hhi : hi ≤ w.heap.size) (hc : 64 ≤ c) (hs : w.heap[s]? = some (.cells C t (0, 0))) (hv : C[164]? = some v)
    (ho : w.ownsRow B 108 64 v n xs) (hsB : s < B) (hB : B ≤ w.heap.size) (hn : (n + 1) * 64 ≤ 140737488355328) : Calls Try.prog 72 #[.slice A 64 c, .pointer (some ⟨s, 0, none⟩)] w (AppPost B s 164 t 108 64 n xs (bvs ch) C w) := by
  obtain ⟨b, off, rfl, _, hb2, hall⟩ := hr (by rw [bvs_length, hl]; decide)
  obtain ⟨Av, cv, rfl, hcv, _⟩ := ownR_form ho
  have HALL : Hid (∀ w', Below w.heap.size w w' → ∀ j u, (bvs ch)[j]? = some u → w'.cell? ⟨b, off + j, none⟩ = some u) := fun w' h' j u hu => (h'.cell (p := ⟨b, off + j, none⟩) (by show b < _; omega)).trans (hall j u hu)
  have E0 : Hid (∀ w', Below w.heap.size w w' → w'.cell? ⟨s, 164, none⟩ = some (.slice Av n cv)) := fun w' h' => by rw [cell_of_row w' s 164 _ _ _ (heap_below hs h')]; exact hv
  obtain ⟨q0, hq0⟩ : ∃ q : Array Value, q = (bvs (seg ch 0)).toArray := ⟨_, rfl⟩
  have Q0 := Lib.hid hq0
  have Z0 : Hid (q0.size = 32) := by show _ = _; rw [hq0]; simp [bvs_length, seg_length (bs := ch) (p := 0) (by omega)]
  obtain ⟨q1, hq1⟩ : ∃ q : Array Value, q = (bvs (seg ch 32)).toArray := ⟨_, rfl⟩
  have Q1 := Lib.hid hq1
  have Z1 : Hid (q1.size = 32) := by show _ = _; rw [hq1]; simp [bvs_length, seg_length (bs := ch) (p := 32) (by omega)]
  obtain ⟨pc, hpc⟩ : ∃ pc : Array Value, pc = (bvs (seg ch 0 ++ seg ch 32)).toArray := ⟨_, rfl⟩
  have HPB : Hid ((Try.prog).built 108 [(0, .agg q0), (1, .agg q1)] = some pc) := by
    show _ = _
    rw [hq0, hq1, hpc]
    exact built_leaf (seg_length (by omega)) (seg_length (by omega))
  have HP : Hid (pc = (bvs ch).toArray) := by show _ = _; rw [hpc, ← two_seg64 hl]
  have PZ : Hid (pc.size = 64) := by show _ = _; rw [HP.out]; simp [bvs_length, hl]
  have HC := Lib.hid hc
  have HS := Lib.hid (And.intro hs (And.intro hsB hB))
  have HO := Lib.hid ho
  have HN := Lib.hid hn
  have hcI : (64 : Int) ≤ (c : Int) := by omega
  
  have hc32 : ¬ c = 32 := by omega
  clear hl hr hhi hc hs hv ho hsB hB hn hall hb2 hpc hcv hq0 hq1
  go_enter Try.func72, Try.ntmps72
  refine AnyZ.start [12, 14] (by kernel_rfl) rfl ?_
  apply AnyZ.pure (i := 0) rfl (by kernel_rfl) rfl rfl
  · intro w' K hK
    go_wp2
    exact hK
  · rfl
  apply AnyZ.take (i := 1) rfl (by kernel_rfl) (by kernel_rfl) rfl
  · intro w' hC K hK
    have e0 := E0.out w' ((below_drawn w _).trans hC)
    go_wp2
    exact hK
  · rfl
  apply AnyZ.take (i := 2) rfl (by kernel_rfl) (by kernel_rfl) rfl
  · intro w' hC K hK
    go_wp2
    exact hK
  · rfl
  apply AnyZ.take (i := 3) rfl (by kernel_rfl) (by kernel_rfl) rfl
  · intro w' hC K hK
    go_wp2
    exact hK
  · rfl
  apply AnyZ.take (i := 4) rfl (by kernel_rfl) (by kernel_rfl) rfl
  · intro w' hC K hK
    have hap := run_arrayAt (P := Try.prog) w' 44 5 32 (some ⟨b, off, none⟩) 32 c Try.underlying44 (Nat.le_refl _)
    go_wp2
    exact hK
  · rfl
  apply AnyZ.take (i := 5) rfl (by kernel_rfl) (by kernel_rfl) rfl
  · intro w' hC K hK
    refine wpList_load_arr rfl _ _ rfl b (off) rfl q0 _ (by rw [Q0.out]; exact flat_seg (k := 0) (by have h_ := PZ.out; rw [HP.out] at h_; simp [bvs_length] at h_; omega) (HALL.out w' ((below_drawn w _).trans hC))) Try.underlying44 rfl (by rw [Z0.out]; kernel_rfl) ?_
    go_wp2
    exact hK
  · rfl
  apply AnyZ.take (i := 6) rfl (by kernel_rfl) (by kernel_rfl) rfl
  · intro w' hC K hK
    go_wp2
    exact hK
  · rfl
  apply AnyZ.take (i := 7) rfl (by kernel_rfl) (by kernel_rfl) rfl
  · intro w' hC K hK
    go_wp2
    exact hK
  · rfl
  apply AnyZ.take (i := 8) rfl (by kernel_rfl) (by kernel_rfl) rfl
  · intro w' hC K hK
    have hap := run_arrayAt (P := Try.prog) w' 44 5 32 (some ⟨b, off + 32, none⟩) 32 (c - 32) Try.underlying44 (Nat.le_refl _)
    go_wp2
    exact hK
  · rfl
  apply AnyZ.take (i := 9) rfl (by kernel_rfl) (by kernel_rfl) rfl
  · intro w' hC K hK
    refine wpList_load_arr rfl _ _ rfl b (off + 32) rfl q1 _ (by rw [Q1.out]; exact flat_seg (k := 1) (by have h_ := PZ.out; rw [HP.out] at h_; simp [bvs_length] at h_; omega) (HALL.out w' ((below_drawn w _).trans hC))) Try.underlying44 rfl (by rw [Z1.out]; kernel_rfl) ?_
    go_wp2
    exact hK
  · rfl
  apply AnyZ.take (i := 10) rfl (by kernel_rfl) (by kernel_rfl) rfl
  · intro w' hC K hK
    refine wpList_build_to rfl _ _ rfl [(0, .agg q0), (1, .agg q1)] rfl pc (by with_reducible exact HPB.out) ?_
    go_wp2
    exact hK
  · rfl
  apply AnyZ.solo (i := 11) rfl (by kernel_rfl)
  intro w2 hC2
  obtain ⟨i0, hi0, hz0, hz1, hz2⟩ := info_parts leinfo
  refine slice1 (cs := pc) (s := 64) rfl rfl rfl PZ.out Try.underlying63 hi0 hz0 hz1 (by decide) ?_
  go_wp2
  refine ⟨rfl, hC2.alloc hC2.size _, ?_⟩
  have B2 := Lib.hid ((below_drawn w _).trans hC2)
  have N2 := Lib.hid (heap_alloc_new w2 (.cells pc 108))
  have A2 : Hid (Below w.heap.size w (w2.alloc (.cells pc 108))) := B2.out.alloc B2.out.size _
  clear hC2
  apply AnyZ.soloW (i := 12) rfl (by kernel_rfl)
  intro w3 hC3
  have B3 := Lib.hid (A2.out.trans (hC3.mono A2.out.size))
  have N3 := Lib.hid (heap_below N2.out hC3)
  have O3 := Lib.hid (ownR_below HO.out B3.out)
  clear hC3
  refine app1 (cs := pc) (n := n) (xs := xs) (base := B) rfl rfl rfl rfl Try.underlying63 hi0 hz0 hz1 hz2 (by simp [Value.cells, bvs_length]) (by decide) O3.out N3.out PZ.out (by rw [HP.out]; exact all_oneCell_toArray (bvs_one _)) (by have h_ := HN.out; omega) (by have h_ := HN.out; omega) (Nat.le_trans HS.out.2.2 B3.out.size) ?_
  intro v5 w5 hown hg hx
  have B5 : Hid (Below B w w5) := (B3.out.mono HS.out.2.2).grown hg (Nat.le_trans HS.out.2.2 B3.out.size) (fun k hk => (World.ownsRow.lt O3.out k hk).1)
  have O5 : Hid (w5.ownsRow B 108 64 v5 (n + 1) (xs ++ bvs ch)) := by
    have h_ := hown
    rw [HP.out] at h_
    exact h_
  obtain ⟨A5, c5, hv5, _, _⟩ := ownR_form O5.out
  subst hv5
  have S5 := Lib.hid ((B5.out.block s HS.out.2.1).trans HS.out.1)
  have e5 : w5.cell? ⟨s, 164, none⟩ = some (.slice Av n cv) := by rw [cell_of_row w5 s 164 _ _ _ S5.out]; rw [← cell_of_row w s 164 _ _ _ HS.out.1]; exact E0.out w (Below.refl _ _)
  have hfz := frozen_row S5.out 164
  clear hown hg hx
  go_wp2
  refine ⟨rfl, ?_⟩
  apply AnyW.pure (i := 13) rfl (by kernel_rfl) rfl rfl
  · intro w' K hK
    go_wp2
    exact hK
  · rfl
  apply AnyW.solo (i := 14) rfl (by kernel_rfl)
  go_wp2
  refine ⟨rfl, ?_⟩
  refine AnyW.done (by kernel_rfl) ?_
  first
    | go_end0
    | (refine bodyPost_ret (results_none rfl _ _ _) rfl ?_)
  exact app_post HS.out.1 HS.out.2.1 B5.out O5.out
set_option maxRecDepth 100000 in
set_option maxHeartbeats 2000000 in
theorem look1_any (A : Option Addr) (c lo hi s B n : Nat) (t : TypeId) (C : Array Value) (v : Value) (xs : List Value) (ch : List UInt8) (w : World) (hl : ch.length = 32) (hr : RdI lo hi w A (bvs ch)) (hhi : hi ≤ w.heap.size) (hc : 32 ≤ c) (hs : w.heap[s]? = some (.cells C t (0, 0))) (hv : C[165]? = some v)
    (ho : w.ownsRow B 44 32 v n xs) (hsB : s < B) (hB : B ≤ w.heap.size) (hn : (n + 1) * 32 ≤ 140737488355328) : Calls Try.prog 63 #[.slice A 32 c, .pointer (some ⟨s, 0, none⟩)] w (AppPost B s 165 t 44 32 n xs (bvs ch) C w) := by
  obtain ⟨b, off, rfl, _, hb2, hall⟩ := hr (by rw [bvs_length, hl]; decide)
  obtain ⟨Av, cv, rfl, hcv, _⟩ := ownR_form ho
  have HALL : Hid (∀ w', Below w.heap.size w w' → ∀ j u, (bvs ch)[j]? = some u → w'.cell? ⟨b, off + j, none⟩ = some u) := fun w' h' j u hu => (h'.cell (p := ⟨b, off + j, none⟩) (by show b < _; omega)).trans (hall j u hu)
  have E0 : Hid (∀ w', Below w.heap.size w w' → w'.cell? ⟨s, 165, none⟩ = some (.slice Av n cv)) := fun w' h' => by rw [cell_of_row w' s 165 _ _ _ (heap_below hs h')]; exact hv
  obtain ⟨q0, hq0⟩ : ∃ q : Array Value, q = (bvs (seg ch 0)).toArray := ⟨_, rfl⟩
  have Q0 := Lib.hid hq0
  have Z0 : Hid (q0.size = 32) := by show _ = _; rw [hq0]; simp [bvs_length, seg_length (bs := ch) (p := 0) (by omega)]
  have HP : Hid (q0 = (bvs ch).toArray) := by show _ = _; rw [hq0, ← one_seg32 hl]
  have PZ : Hid (q0.size = 32) := by show _ = _; rw [HP.out]; simp [bvs_length, hl]
  have HC := Lib.hid hc
  have HS := Lib.hid (And.intro hs (And.intro hsB hB))
  have HO := Lib.hid ho
  have HN := Lib.hid hn
  have hcI : (32 : Int) ≤ (c : Int) := by omega
  have hce : ¬ c = 0 := by omega
  clear hl hr hhi hc hs hv ho hsB hB hn hall hb2 hcv hq0
  go_enter Try.func63, Try.ntmps63
  refine AnyZ.start [6, 8] (by kernel_rfl) rfl ?_
  apply AnyZ.pure (i := 0) rfl (by kernel_rfl) rfl rfl
  · intro w' K hK
    go_wp2
    exact hK
  · rfl
  apply AnyZ.take (i := 1) rfl (by kernel_rfl) (by kernel_rfl) rfl
  · intro w' hC K hK
    have e0 := E0.out w' ((below_drawn w _).trans hC)
    go_wp2
    exact hK
  · rfl
  apply AnyZ.take (i := 2) rfl (by kernel_rfl) (by kernel_rfl) rfl
  · intro w' hC K hK
    go_wp2
    exact hK
  · rfl
  apply AnyZ.take (i := 3) rfl (by kernel_rfl) (by kernel_rfl) rfl
  · intro w' hC K hK
    have hap := run_arrayAt (P := Try.prog) w' 44 5 32 (some ⟨b, off, none⟩) 32 c Try.underlying44 (Nat.le_refl _)
    go_wp2
    exact hK
  · rfl
  apply AnyZ.take (i := 4) rfl (by kernel_rfl) (by kernel_rfl) rfl
  · intro w' hC K hK
    refine wpList_load_arr rfl _ _ rfl b (off) rfl q0 _ (by rw [Q0.out]; exact flat_seg (k := 0) (by have h_ := PZ.out; rw [HP.out] at h_; simp [bvs_length] at h_; omega) (HALL.out w' ((below_drawn w _).trans hC))) Try.underlying44 rfl (by rw [Z0.out]; kernel_rfl) ?_
    go_wp2
    exact hK
  · rfl
  apply AnyZ.solo (i := 5) rfl (by kernel_rfl)
  intro w2 hC2
  obtain ⟨i0, hi0, hz0, hz1, hz2⟩ := info_parts hinfo
  refine slice1 (cs := q0) (s := 32) rfl rfl rfl PZ.out Try.underlying30 hi0 hz0 hz1 (by decide) ?_
  go_wp2
  refine ⟨rfl, hC2.alloc hC2.size _, ?_⟩
  have B2 := Lib.hid ((below_drawn w _).trans hC2)
  have N2 := Lib.hid (heap_alloc_new w2 (.cells q0 44))
  have A2 : Hid (Below w.heap.size w (w2.alloc (.cells q0 44))) := B2.out.alloc B2.out.size _
  clear hC2
  apply AnyZ.soloW (i := 6) rfl (by kernel_rfl)
  intro w3 hC3
  have B3 := Lib.hid (A2.out.trans (hC3.mono A2.out.size))
  have N3 := Lib.hid (heap_below N2.out hC3)
  have O3 := Lib.hid (ownR_below HO.out B3.out)
  clear hC3
  refine app1 (cs := q0) (n := n) (xs := xs) (base := B) rfl rfl rfl rfl Try.underlying30 hi0 hz0 hz1 hz2 (by simp [Value.cells, bvs_length]) (by decide) O3.out N3.out PZ.out (by rw [HP.out]; exact all_oneCell_toArray (bvs_one _)) (by have h_ := HN.out; omega) (by have h_ := HN.out; omega) (Nat.le_trans HS.out.2.2 B3.out.size) ?_
  intro v5 w5 hown hg hx
  have B5 : Hid (Below B w w5) := (B3.out.mono HS.out.2.2).grown hg (Nat.le_trans HS.out.2.2 B3.out.size) (fun k hk => (World.ownsRow.lt O3.out k hk).1)
  have O5 : Hid (w5.ownsRow B 44 32 v5 (n + 1) (xs ++ bvs ch)) := by
    have h_ := hown
    rw [HP.out] at h_
    exact h_
  obtain ⟨A5, c5, hv5, _, _⟩ := ownR_form O5.out
  subst hv5
  have S5 := Lib.hid ((B5.out.block s HS.out.2.1).trans HS.out.1)
  have e5 : w5.cell? ⟨s, 165, none⟩ = some (.slice Av n cv) := by rw [cell_of_row w5 s 165 _ _ _ S5.out]; rw [← cell_of_row w s 165 _ _ _ HS.out.1]; exact E0.out w (Below.refl _ _)
  have hfz := frozen_row S5.out 165
  clear hown hg hx
  go_wp2
  refine ⟨rfl, ?_⟩
  apply AnyW.pure (i := 7) rfl (by kernel_rfl) rfl rfl
  · intro w' K hK
    go_wp2
    exact hK
  · rfl
  apply AnyW.solo (i := 8) rfl (by kernel_rfl)
  go_wp2
  refine ⟨rfl, ?_⟩
  refine AnyW.done (by kernel_rfl) ?_
  first
    | go_end0
    | (refine bodyPost_ret (results_none rfl _ _ _) rfl ?_)
  exact app_post HS.out.1 HS.out.2.1 B5.out O5.out
end Go.Proofs.Ytbpgbihcihnieaa
