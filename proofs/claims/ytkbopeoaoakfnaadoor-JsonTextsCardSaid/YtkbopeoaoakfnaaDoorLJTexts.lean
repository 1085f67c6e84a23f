/- The walk of JsonTexts. No conditions. -/
import Derived.Test.YtkbopeoaoakfnaaDoorJA
import Derived.Test.YtkbopeoaoakfnaaDoorJW4
import Derived.Test.YtkbopeoaoakfnaaDoorArgStr
import Derived.Laws.Runes
namespace Go.Proofs.YtkbopeoaoakfnaaDoor
open Go.RowKit
theorem encode_eq (r : Nat) (hv : r < 55296 ∨ (57343 < r ∧ r ≤ 1114111)) : Utf8.encode (r : Int) = ⟨(Lib.encodeRune (r : Int)).toArray⟩ := by
  have key : ∀ (l : List UInt8) (m : List UInt8), l = m → (⟨l.toArray⟩ : ByteArray) = ⟨m.toArray⟩ := fun l m h => by rw [h]
  have hb : ∀ (n : Nat) (x : Int), x = (n : Int) → n < 256 → UInt8.ofNat n = x.toNat.toUInt8 := fun n x h hn => by subst h; rfl
  unfold Utf8.encode Lib.encodeRune
  have hval : Utf8.valid (r : Int) = true := by simp [Utf8.valid]; omega
  simp only [hval, if_true, Int.toNat_natCast]
  by_cases h1 : r ≤ 127
  · rw [if_pos (by omega), Lib.encodeRuneZ_one (by omega) (by omega)]
    rfl
  by_cases h2 : r ≤ 2047
  · rw [if_neg (by omega), if_pos (by omega), Lib.encodeRuneZ_two (by omega) (by omega)]
    exact key [_, _] _ (by rw [hb _ (192 + (r : Int) / 64) (by omega) (by omega), hb _ (128 + (r : Int) % 64) (by omega) (by omega)]; rfl)
  by_cases h3 : r ≤ 65535
  · rw [if_neg (by omega), if_neg (by omega), if_pos (by omega), Lib.encodeRuneZ_three (by omega)]
    exact key [_, _, _] _ (by rw [hb _ (224 + (r : Int) / 4096) (by omega) (by omega), hb _ (128 + (r : Int) / 64 % 64) (by omega) (by omega), hb _ (128 + (r : Int) % 64) (by omega) (by omega)]; rfl)
  · rw [if_neg (by omega), if_neg (by omega), if_neg (by omega), Lib.encodeRuneZ_four (by omega) (by omega)]
    exact key [_, _, _, _] _ (by rw [hb _ (240 + (r : Int) / 262144) (by omega) (by omega), hb _ (128 + (r : Int) / 4096 % 64) (by omega) (by omega), hb _ (128 + (r : Int) / 64 % 64) (by omega) (by omega), hb _ (128 + (r : Int) % 64) (by omega) (by omega)]; rfl)
theorem append_mk (a b : List UInt8) : (⟨a.toArray⟩ : ByteArray) ++ (⟨b.toArray⟩ : ByteArray) = ⟨(a ++ b).toArray⟩ := by
  apply ByteArray.ext
  simp
set_option maxRecDepth 100000 in
set_option maxHeartbeats 800000 in
theorem asText_text (s : List UInt8) (w : World) : Calls Tryd.prog 17 #[.iface 41 (.string ⟨s.toArray⟩)] w fun e w' => e = .returned (.tuple #[.string ⟨s.toArray⟩, .bool true]) ∧ w' = w := by
  have f1 := fun w => is_Text (.string ⟨s.toArray⟩) w
  go_enter Tryd.func17, Tryd.ntmps17
  go_wp2
  go_ret2
  exact ⟨rfl, rfl⟩
set_option maxRecDepth 100000 in
set_option maxHeartbeats 800000 in
theorem jsonTexts_walk (v0 : Value) (x0 : ByteArray) (W : World) (a0 : ArgS v0 x0) : Calls Tryd.prog 4 #[v0] W fun e W' => e = .returned (.bool true) ∧ Below W.heap.size W W' := by
  obtain ⟨rfl, hx⟩ := a0
  obtain ⟨s, hs⟩ : ∃ s : List UInt8, x0 = ⟨s.toArray⟩ := ⟨x0.data.toList, by cases x0; simp⟩
  have hsz : x0.size = s.length := by rw [hs]; simp [ByteArray.size]
  by_cases hbig : 1300 < x0.size
  · have hb : (1300 : Int) < (x0.size : Int) := by omega
    clear hbig hs hsz
    go_enter Tryd.func4, Tryd.ntmps4
    go_wp2_with (go_at_call 10; go_must (refine (awake_any W).mono ?_; rintro e w1 ⟨rfl, hb1⟩))
    go_ret
    exact ⟨rfl, hb1⟩
  · have hb : (x0.size : Int) ≤ 1300 := by omega
    have HS := Lib.hid hs
    have HSZ := Lib.hid hsz
    have hlen : (quoteB s).length ≤ 8192 := by
      have := quoteD_len s.length s (Nat.le_refl _)
      unfold quoteB
      simp only [List.length_cons, List.length_append, List.length_nil]
      omega
    have HLEN := Lib.hid hlen
    have HSL := Lib.hid (show s.length ≤ 1300 by omega)
    clear hbig hs hsz hx hlen
    go_enter Tryd.func4, Tryd.ntmps4
    go_wp2_with (go_at_call 10; go_must (refine (awake_any W).mono ?_; rintro e w1 ⟨rfl, hb1⟩))
    obtain ⟨it, hit0⟩ : ∃ it, it = w1.heap.size := ⟨_, rfl⟩
    rw [← hit0]
    have HIT := Lib.hid hit0
    clear hit0
    go_loopw [3] (fun v wr => ∃ (pos : Nat) (acc : List UInt8), pos ≤ s.length ∧ v = .string ⟨acc.toArray⟩ ∧ acc.length ≤ 4 * pos ∧ acc ++ runesD (s.drop pos) = runesD s ∧ wr.heap[it]? = some (.stringIter x0 pos) ∧ Below w1.heap.size w1 wr) (fun _ wr => s.length - wr.iterPos it)
    case atStart => exact ⟨0, [], Nat.zero_le _, rfl, by simp, by simp, by rw [HIT.out]; exact World.iter_heap w1 x0 0, below_iter w1 x0 0⟩
    case round =>
      obtain ⟨pos, acc, hps, rfl, hal, hacc, hit, hbw⟩ := hrel
      by_cases hp : pos < s.length
      · have hne : s.drop pos ≠ [] := by
          intro h0
          have := congrArg List.length h0
          rw [List.length_drop] at this
          simp at this
          omega
        have hnx : ∀ ty, (Instr.next (.pointer (some ⟨it, 0, none⟩)) true ty).run Tryd.prog wr = _ := fun ty => Lib.run_next_any_at wr it x0 pos ty hit (by rw [HSZ.out]; exact hp)
        have hdec : Utf8.decode x0 pos = Lib.decodeL (s.drop pos) := by
          rw [← Lib.decodeL_drop, HS.out]
        obtain ⟨r, wd, hrw⟩ : ∃ r wd, Lib.decodeL (s.drop pos) = (r, wd) := ⟨_, _, rfl⟩
        have hstep := runesD_step (s.drop pos) hne
        have hrv := decL_valid (s.drop pos)
        rw [hrw] at hrv
        have hwd := Lib.decodeL_width (s.drop pos)
        have hwl := Lib.decodeL_le (s.drop pos) hne
        rw [List.length_drop] at hwl
        rw [hrw] at hstep hwd hwl
        simp only at hstep hwd hwl
        rw [List.drop_drop] at hstep
        rw [hstep, ← List.append_assoc] at hacc
        rw [hdec, hrw] at hnx
        have hit2 := Lib.iterAt_heap wr it x0 pos (pos + wd) hit
        have hbw2 := Lib.below_iterAt hbw (k := it) (by have := HIT.out; omega) x0 (pos + wd)
        obtain ⟨E, hE⟩ : ∃ E : ByteArray, E = ⟨(Lib.encodeRune (r : Int)).toArray⟩ := ⟨_, rfl⟩
        obtain ⟨A0, hA0⟩ : ∃ A0 : ByteArray, A0 = ⟨acc.toArray⟩ := ⟨_, rfl⟩
        have hEz : E.size = (Lib.encodeRune (r : Int)).length := by rw [hE]; simp [ByteArray.size]
        have hAz : A0.size = acc.length := by rw [hA0]; simp [ByteArray.size]
        have he4 := (Lib.runeCells_le (r : Int)).2
        rw [Lib.runeCells_length] at he4
        have hcv : ∀ w', (convert 21 9 (.int .i32 (r : Int))).run Tryd.prog w' = .ok (.string E) w' := fun w' => by rw [hE, ← encode_eq r hrv]; exact run_convert_int_string w' _ _ _ _ rfl Tryd.underlying9
        have hsum : ¬ 9223372036854775807 < A0.size + E.size := by have := HSL.out; omega
        have HN := Lib.hid (show A0 ++ E = ⟨(acc ++ Lib.encodeRune (r : Int)).toArray⟩ by rw [hA0, hE, append_mk])
        have HACC := Lib.hid hacc
        have HW := Lib.hid (show 1 ≤ wd ∧ wd ≤ s.length - pos ∧ (acc ++ Lib.encodeRune (r : Int)).length ≤ 4 * (pos + wd) ∧ pos < s.length from ⟨hwd, hwl, by rw [List.length_append]; omega, hp⟩)
        rw [← hA0]
        clear hrv hne hdec hrw hstep hwd hwl hacc hE hA0 hEz hAz he4 hal hp
        go_wp2
        go_roundw
        case rel =>
          obtain ⟨q1, q2, q3, q4⟩ := HW.out
          exact ⟨pos + wd, acc ++ Lib.encodeRune (r : Int), by omega, by rw [HN.out], q3, HACC.out, hit2, hbw2⟩
        case measure =>
          obtain ⟨q1, q2, q3, q4⟩ := HW.out
          simp only [World.iterPos, hit2, hit]
          omega
      · obtain rfl : pos = s.length := by omega
        have hnx : ∀ ty, (Instr.next (.pointer (some ⟨it, 0, none⟩)) true ty).run Tryd.prog wr = _ := fun ty => Lib.run_next_end_at wr it x0 s.length ty hit (by rw [HSZ.out]; exact hp)
        rw [List.drop_length] at hacc
        have hr0 : runesD [] = [] := rfl
        rw [hr0, List.append_nil] at hacc
        subst hacc
        have hPQ := parse_quote s HLEN.out
        have HPQ := Lib.hid hPQ
        have HBW := Lib.hid (hb1.trans (hbw.mono hb1.size))
        clear hPQ hr0 hp hal
        go_wp2_with (first
          | (go_at_call 12; go_must (rw [HS.out]; have hp := print_any (w := wr) (IsV.text (F := fun _ => False) s) (fun k hk => hk.elim) (by rw [prt]; have := HLEN.out; omega); rw [prt] at hp; refine hp.mono ?_; clear hp; rintro e w2 ⟨rfl, hb2⟩))
          | (go_at_call 16; go_must (have hp := parse_any w2 (quoteB s); unfold ParsePost at hp; rw [HPQ.out] at hp; refine hp.mono ?_; clear hp; rintro e w3 ⟨v, rfl, hb3, hv⟩; obtain rfl : v = .iface 41 (.string ⟨(runesD s).toArray⟩) := (by cases hv; rfl); clear hv))
          | (go_at_call 17; go_must (refine (asText_text (runesD s) _).mono ?_; rintro e w4 ⟨rfl, hw4⟩; have hw4 := hw4.symm; subst hw4)))
        go_ret
        exact ⟨rfl, HBW.out.trans ((hb2.trans (hb3.mono hb2.size)).mono HBW.out.size)⟩
end Go.Proofs.YtkbopeoaoakfnaaDoor
