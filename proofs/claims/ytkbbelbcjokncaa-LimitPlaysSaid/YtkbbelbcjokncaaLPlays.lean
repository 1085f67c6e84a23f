/- The law LimitPlays. No conditions. -/
import Derived.Test.YtkbbelbcjokncaaR14
import Derived.Test.YtkbbelbcjokncaaArgAsks
import Derived.Test.YtkbbelbcjokncaaArgI64
import Derived.Test.YtkbbelbcjokncaaArgStr
namespace Go.Proofs.Ytkbbelbcjokncaa
open Go.RowKit
set_option maxRecDepth 100000 in
set_option maxHeartbeats 600000 in
theorem Plays_bad (most each : Int) (hbad : badNew most each) (v u : Value) (w : World) :
    Calls Try.prog 4 #[.int .i64 most, .int .i64 each, v, u] w fun e w' => e = .returned (.bool true) ∧ Below w.heap.size w w' := by
  have Hbad := Lib.hid hbad
  clear hbad
  go_enter Try.func4, Try.ntmps4
  go_wp2_with (first
    | (go_at_call 8; go_must (refine (awake_any _).mono ?_; rintro e w0 ⟨rfl, hbw⟩; have Hbw := Lib.hid hbw; clear hbw))
    | (go_at_call 9; go_must (refine (New_bad most each Hbad.out _).mono ?_; rintro e w1 ⟨rfl, rfl⟩))
    | (go_at_call 12; go_must (refine (RNew_bad most each Hbad.out _).mono ?_; rintro e w1 ⟨rfl, rfl⟩)))
  go_ret
  exact ⟨rfl, Hbw.out⟩
/-- What holds of both tables between the rounds. -/
def Even (t : LT) (r : RT) : Prop := t.ok ∧ t.n ≤ 64 ∧ Same t r
theorem Even.start {most each : Int} (h1 : 1 ≤ most) (h2 : most ≤ 2147483648) (h3 : 0 ≤ each) (h4 : each ≤ 2147483648) : Even (LT.fresh most each) (RT.fresh most each) := ⟨fresh_ok h1 h2 h3 h4, Nat.zero_le _, Same.start _ _⟩
theorem Even.few {t : LT} {r : RT} (h : Even t r) : r.bs.length ≤ 64 := h.2.2.n ▸ h.2.1
theorem Even.rok {t : LT} {r : RT} (h : Even t r) : r.ok := h.2.2.rok h.1 h.2.1
theorem Even.step {t t' : LT} {r r' : RT} {s : ByteArray} {now : Int} {x y : Bool} (h : Even t r) (hok : t'.ok) (hp : PStep t s.data.toList now x t') (hr : RStep r s now y r') : x = y ∧ Even t' r' := by
  obtain ⟨h1, h2, h3⟩ := h.2.2.step h.1 h.2.1 hp hr
  exact ⟨h1, hok, h3, h2⟩
set_option maxRecDepth 100000 in
set_option maxHeartbeats 1000000 in
theorem Plays_good (most each : Int) (h1 : 1 ≤ most) (h2 : most ≤ 2147483648) (h3 : 0 ≤ each) (h4 : each ≤ 2147483648) (ak : List (ByteArray × Int)) (key : ByteArray) (w : World) {A : Option Addr} {c : Nat} (hmax : ak.length ≤ 9223372036854775807)
    (has : ∀ i q, ak[i]? = some q → AskAt w w.heap.size A i q ∧ q.1.size ≤ maxLen ∧ -9223372036854775808 ≤ q.2 ∧ q.2 ≤ 9223372036854775807) (hks : key.size ≤ maxLen) :
    Calls Try.prog 4 #[.int .i64 most, .int .i64 each, .slice A ak.length c, .string key] w fun e w' => e = .returned (.bool true) ∧ Below w.heap.size w w' := by
  have Hmx : ∀ k, k < ak.length → (k : Int) + 1 ≤ 9223372036854775807 := fun k hk => by omega
  have Has := Lib.hid has
  have Hks := Lib.hid hks
  have Hb := Lib.hid (And.intro h1 (And.intro h2 (And.intro h3 h4)))
  clear hmax has hks h1 h2 h3 h4
  go_enter Try.func4, Try.ntmps4
  go_wp2_with (first
    | (go_at_call 8; go_must (refine (awake_any _).mono ?_; rintro e w0 ⟨rfl, hbw⟩; have Hbw := Lib.hid hbw; clear hbw))
    | (go_at_call 9; go_must (refine (New_tk (w0 := w) most each Hb.out.1 Hb.out.2.1 Hb.out.2.2.1 Hb.out.2.2.2 Hbw.out).mono ?_; rintro e w1 ⟨g, m, rfl, hn1⟩; have H1 := Lib.hid hn1; clear hn1))
    | (go_at_call 12; go_must (refine (New_pair H1.out most each Hb.out.1 Hb.out.2.1 Hb.out.2.2.1 Hb.out.2.2.2).mono ?_; rintro e w2 ⟨g', rfl, hn2⟩; have H2 := Lib.hid hn2; clear hn2)))
  go_loopw [43] (fun i wr => ∃ (k : Nat) (t : LT) (r : RT), k ≤ ak.length ∧ i = .int .i64 k ∧ Hid (Even t r) ∧ Hid (Pair w wr g m t g' r)) (fun i _ => ak.length - (intOf i).toNat)
  case atStart => exact ⟨0, _, _, Nat.zero_le _, rfl, Even.start Hb.out.1 Hb.out.2.1 Hb.out.2.2.1 Hb.out.2.2.2, H2.out⟩
  case round =>
    obtain ⟨k, t, r, hk, rfl, hI, hT⟩ := hrel
    clear H1 H2
    by_cases hlt : k < ak.length
    · have hlt' : (k : Int) < (ak.length : Int) := by omega
      have hk0 : (0 : Int) ≤ (k : Int) := by omega
      obtain ⟨q, hq⟩ : ∃ q, ak[k]? = some q := ⟨_, List.getElem?_eq_getElem hlt⟩
      obtain ⟨⟨b, off, rfl, hb, hcs, hcn⟩, hqs, hqn⟩ := Has.out k q hq
      have hnow : ∀ w', Below w.heap.size w w' → w'.cell? ⟨b, off + k * 2 + 1, none⟩ = some (.int .i64 q.2) := fun w' hC => by rw [Nat.add_assoc]; exact (hC.cell (p := ⟨b, off + (k * 2 + 1), none⟩) hb).trans hcn
      have hkey : ∀ w', Below w.heap.size w w' → w'.cell? ⟨b, off + k * 2, none⟩ = some (.string q.1) := fun w' hC => (hC.cell (p := ⟨b, off + k * 2, none⟩) hb).trans hcs
      have Hnow := Lib.hid hnow
      have Hkey := Lib.hid hkey
      have Hqn := Lib.hid hqn
      have Hqs := Lib.hid hqs
      clear hcs hcn hqs hqn hnow hkey hq hb
      go_wp2
      refine AnyK.start w (by kernel_rfl) rfl ?_
      have hT1 := hT.out.drew (wr.drawn + 1)
      generalize ({ wr with drawn := wr.drawn + 1 } : World) = wx at *
      have HT1 := Lib.hid hT1
      clear hT1
      apply AnyK.take (i := 0) rfl (by kernel_rfl) rfl
      · intro w' hC K hK
        go_wp2
        exact hK
      · rfl
      apply AnyK.take (i := 1) rfl (by kernel_rfl) rfl
      · intro w' hC K hK
        go_wp2
        exact hK
      · rfl
      apply AnyK.take (i := 2) rfl (by kernel_rfl) rfl
      · intro w' hC K hK
        go_wp2
        exact hK
      · rfl
      apply AnyK.take (i := 3) rfl (by kernel_rfl) rfl
      · intro w' hC K hK
        go_wp2
        exact hK
      · rfl
      apply AnyK.take (i := 4) rfl (by kernel_rfl) rfl
      · intro w' hC K hK
        go_wp2
        exact hK
      · rfl
      apply AnyK.take (i := 5) rfl (by kernel_rfl) rfl
      · intro w' hC K hK
        have h0 := Hkey.out w' hC
        go_wp2
        exact hK
      · rfl
      apply AnyK.take (i := 6) rfl (by kernel_rfl) rfl
      · intro w' hC K hK
        go_wp2
        exact hK
      · rfl
      apply AnyK.take (i := 7) rfl (by kernel_rfl) rfl
      · intro w' hC K hK
        go_wp2
        exact hK
      · rfl
      apply AnyK.take (i := 8) rfl (by kernel_rfl) rfl
      · intro w' hC K hK
        go_wp2
        exact hK
      · rfl
      apply AnyK.take (i := 9) rfl (by kernel_rfl) rfl
      · intro w' hC K hK
        go_wp2
        exact hK
      · rfl
      apply AnyK.take (i := 10) rfl (by kernel_rfl) rfl
      · intro w' hC K hK
        have h0 := Hnow.out w' hC
        go_wp2
        exact hK
      · rfl
      apply AnyK.take (i := 12) rfl (by kernel_rfl) rfl
      · intro w' hC K hK
        go_wp2
        exact hK
      · rfl
      apply AnyK.take (i := 13) rfl (by kernel_rfl) rfl
      · intro w' hC K hK
        go_wp2
        exact hK
      · rfl
      apply AnyK.take (i := 14) rfl (by kernel_rfl) rfl
      · intro w' hC K hK
        go_wp2
        exact hK
      · rfl
      apply AnyK.take (i := 15) rfl (by kernel_rfl) rfl
      · intro w' hC K hK
        go_wp2
        exact hK
      · rfl
      apply AnyK.take (i := 16) rfl (by kernel_rfl) rfl
      · intro w' hC K hK
        go_wp2
        exact hK
      · rfl
      apply AnyK.take (i := 17) rfl (by kernel_rfl) rfl
      · intro w' hC K hK
        have h0 := Hkey.out w' hC
        go_wp2
        exact hK
      · rfl
      apply AnyK.take (i := 18) rfl (by kernel_rfl) rfl
      · intro w' hC K hK
        go_wp2
        exact hK
      · rfl
      apply AnyK.take (i := 19) rfl (by kernel_rfl) rfl
      · intro w' hC K hK
        go_wp2
        exact hK
      · rfl
      apply AnyK.take (i := 20) rfl (by kernel_rfl) rfl
      · intro w' hC K hK
        go_wp2
        exact hK
      · rfl
      apply AnyK.take (i := 21) rfl (by kernel_rfl) rfl
      · intro w' hC K hK
        go_wp2
        exact hK
      · rfl
      apply AnyK.take (i := 22) rfl (by kernel_rfl) rfl
      · intro w' hC K hK
        have h0 := Hnow.out w' hC
        go_wp2
        exact hK
      · rfl
      apply AnyK.solo (i := 11) rfl (by kernel_rfl) HT1.out.below0
      go_wp2_with (go_at_call 10; go_must (refine (TakeP HT1.out hI.out.1 hI.out.2.1 q.1 Hqs.out Hqn.out).mono ?_; rintro e w5 ⟨x, t', rfl, hok', hps, h5⟩; have HT5 := Lib.hid h5; have Hok := Lib.hid hok'; have Hps := Lib.hid hps; clear h5 hok' hps))
      refine ⟨rfl, ?_⟩
      apply AnyK.solo (i := 23) rfl (by kernel_rfl) HT5.out.below0
      go_wp2_with (go_at_call 13; go_must (refine (TakeR HT5.out hI.out.rok q.1 Hqn.out).mono ?_; rintro e w6 ⟨y, r', rfl, hrs, h6⟩; obtain ⟨rfl, he⟩ := hI.out.step Hok.out Hps.out hrs; have HT6 := Lib.hid h6; have HE := Lib.hid he; clear h6 he hrs))
      refine ⟨rfl, ?_⟩
      clear HT1 HT5 hT
      apply AnyK.take (i := 24) rfl (by kernel_rfl) rfl
      · intro w' hC K hK
        go_wp2
        exact hK
      · rfl
      apply AnyK.take (i := 25) rfl (by kernel_rfl) rfl
      · intro w' hC K hK
        go_wp2
        exact hK
      · rfl
      apply AnyK.take (i := 26) rfl (by kernel_rfl) rfl
      · intro w' hC K hK
        go_wp2
        exact hK
      · rfl
      apply AnyK.take (i := 28) rfl (by kernel_rfl) rfl
      · intro w' hC K hK
        go_wp2
        exact hK
      · rfl
      apply AnyK.solo (i := 27) rfl (by kernel_rfl) HT6.out.below0
      go_wp2_with (go_at_call 14; go_must (refine (SizeP HT6.out).mono ?_; rintro e w7 ⟨rfl, rfl⟩; rw [HE.out.2.2.n]))
      refine ⟨rfl, ?_⟩
      apply AnyK.solo (i := 29) rfl (by kernel_rfl) HT6.out.below0
      go_wp2_with (go_at_call 15; go_must (refine (SizeR HT6.out).mono ?_; rintro e w7 ⟨rfl, rfl⟩))
      refine ⟨rfl, ?_⟩
      apply AnyK.take (i := 30) rfl (by kernel_rfl) rfl
      · intro w' hC K hK
        go_wp2
        exact hK
      · rfl
      apply AnyK.take (i := 31) rfl (by kernel_rfl) rfl
      · intro w' hC K hK
        go_wp2
        exact hK
      · rfl
      apply AnyK.take (i := 32) rfl (by kernel_rfl) rfl
      · intro w' hC K hK
        go_wp2
        exact hK
      · rfl
      apply AnyK.take (i := 33) rfl (by kernel_rfl) rfl
      · intro w' hC K hK
        go_wp2
        exact hK
      · rfl
      apply AnyK.take (i := 34) rfl (by kernel_rfl) rfl
      · intro w' hC K hK
        go_wp2
        exact hK
      · rfl
      apply AnyK.take (i := 35) rfl (by kernel_rfl) rfl
      · intro w' hC K hK
        go_wp2
        exact hK
      · rfl
      apply AnyK.take (i := 36) rfl (by kernel_rfl) rfl
      · intro w' hC K hK
        go_wp2
        exact hK
      · rfl
      apply AnyK.take (i := 37) rfl (by kernel_rfl) rfl
      · intro w' hC K hK
        go_wp2
        exact hK
      · rfl
      apply AnyK.take (i := 38) rfl (by kernel_rfl) rfl
      · intro w' hC K hK
        have h0 := Hkey.out w' hC
        go_wp2
        exact hK
      · rfl
      apply AnyK.take (i := 40) rfl (by kernel_rfl) rfl
      · intro w' hC K hK
        go_wp2
        exact hK
      · rfl
      apply AnyK.take (i := 41) rfl (by kernel_rfl) rfl
      · intro w' hC K hK
        go_wp2
        exact hK
      · rfl
      apply AnyK.take (i := 42) rfl (by kernel_rfl) rfl
      · intro w' hC K hK
        go_wp2
        exact hK
      · rfl
      apply AnyK.take (i := 43) rfl (by kernel_rfl) rfl
      · intro w' hC K hK
        go_wp2
        exact hK
      · rfl
      apply AnyK.take (i := 44) rfl (by kernel_rfl) rfl
      · intro w' hC K hK
        go_wp2
        exact hK
      · rfl
      apply AnyK.take (i := 45) rfl (by kernel_rfl) rfl
      · intro w' hC K hK
        have h0 := Hkey.out w' hC
        go_wp2
        exact hK
      · rfl
      apply AnyK.solo (i := 39) rfl (by kernel_rfl) HT6.out.below0
      go_wp2_with (go_at_call 11; go_must (refine (TokensP HT6.out q.1 Hqs.out).mono ?_; rintro e w7 ⟨rfl, rfl⟩; rw [HE.out.2.2.tokens]))
      refine ⟨rfl, ?_⟩
      apply AnyK.solo (i := 46) rfl (by kernel_rfl) HT6.out.below0
      go_wp2_with (go_at_call 16; go_must (refine (TokensR HT6.out q.1 HE.out.few).mono ?_; rintro e w7 ⟨rfl, rfl⟩))
      refine ⟨rfl, ?_⟩
      apply AnyK.take (i := 47) rfl (by kernel_rfl) rfl
      · intro w' hC K hK
        go_wp2
        exact hK
      · rfl
      apply AnyK.take (i := 48) rfl (by kernel_rfl) rfl
      · intro w' hC K hK
        go_wp2
        exact hK
      · rfl
      refine AnyK.done HT6.out.below0 (by kernel_rfl) ?_
      have hmx := Hmx k hlt
      go_wp2
      go_roundw
      case rel => exact ⟨k + 1, t', r', hlt, by go_num, HE, HT6⟩
      case measure => simp [intOf]; omega
    · obtain rfl : k = ak.length := by omega
      go_wp2_with (first
        | (go_at_call 11; go_must (refine (TokensP hT.out key Hks.out).mono ?_; rintro e w7 ⟨rfl, rfl⟩; rw [hI.out.2.2.tokens]))
        | (go_at_call 16; go_must (refine (TokensR hT.out key hI.out.few).mono ?_; rintro e w7 ⟨rfl, rfl⟩)))
      go_ret
      exact ⟨by simp, hT.out.below0⟩
theorem LimitPlays_walk (v0 v1 v2 v3 : Value) (most each : Int) (ak : List (ByteArray × Int)) (key : ByteArray) (w : World) (a0 : ArgI64 v0 most) (a1 : ArgI64 v1 each) (a2 : ArgAsks w v2 ak) (a3 : ArgS v3 key) : Calls Try.prog 4 #[v0, v1, v2, v3] w fun e w' => e = .returned (.bool true) ∧ Below w.heap.size w w' := by
  obtain ⟨rfl, _⟩ := a0
  obtain ⟨rfl, _⟩ := a1
  obtain ⟨A, c, rfl, hm, hq⟩ := a2
  obtain ⟨rfl, hs⟩ := a3
  by_cases hbad : badNew most each
  · exact Plays_bad most each hbad _ _ w
  · have hb : 1 ≤ most ∧ most ≤ 2147483648 ∧ 0 ≤ each ∧ each ≤ 2147483648 := by unfold badNew at hbad; omega
    exact Plays_good most each hb.1 hb.2.1 hb.2.2.1 hb.2.2.2 ak key w hm hq (Nat.le_trans hs (by decide))
end Go.Proofs.Ytkbbelbcjokncaa
