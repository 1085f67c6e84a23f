/- A hexadecimal number is read: strconv.ParseInt(s, 16, 32) on one to six digits. No conditions. -/
import Derived.Test.YtjichadkonlfpaaDoorH8b
import Derived.Lib.ConvBytes
namespace Go.Proofs.YtjichadkonlfpaaDoor
open Go.RowKit
theorem hexN_succ (v : List UInt8) (k : Nat) (h : k < v.length) : hexN (v.take (k + 1)) = hexN (v.take k) * 16 + hexV v[k] := by
  unfold hexN
  rw [List.take_succ_eq_append_getElem h, List.foldl_append]
  rfl
theorem hex_cases {c : UInt8} (h : hexB c = true) : (48 ≤ (c.toNat : Int) ∧ (c.toNat : Int) ≤ 57 ∧ (hexV c : Int) = (c.toNat : Int) - 48) ∨
    (((c.toNat : Int) < 48 ∨ 57 < (c.toNat : Int)) ∧ 97 ≤ lowI c ∧ lowI c ≤ 102 ∧ (hexV c : Int) = lowI c - 97 + 10) := by
  cases hd : digitB c with
  | true =>
    refine .inl ?_
    have h1 : hexV c = c.toNat - 48 := by unfold hexV; rw [hd]; rfl
    simp only [digitB, Bool.and_eq_true, decide_eq_true_eq] at hd
    omega
  | false =>
    have h1 : hexV c = (lowI c).toNat - 87 := by unfold hexV; rw [hd]; rfl
    rw [hexB, hd, Bool.false_or] at h
    simp only [letterB, Bool.and_eq_true, decide_eq_true_eq] at h
    simp only [digitB, Bool.and_eq_false_iff, decide_eq_false_iff_not] at hd
    exact .inr ⟨by omega, by omega, by omega, by omega⟩
theorem hex95 {c : UInt8} (h : hexB c = true) : (c.toNat : Int) ≠ 95 := by
  intro h2
  have : c = 95 := UInt8.toNat_inj.1 (by show c.toNat = 95; omega)
  subst this
  exact absurd h (by decide +kernel)
theorem hexV_lt {c : UInt8} (h : hexB c = true) : hexV c < 16 := by
  rcases hex_cases h with h1 | h1 <;> omega
theorem hexN_lt (v : List UInt8) (h : ∀ c ∈ v, hexB c = true) (k : Nat) (hk : k ≤ v.length) : hexN (v.take k) < 16 ^ k := by
  induction k with
  | zero => simp [hexN]
  | succ k ih =>
    have h1 := ih (by omega)
    have h2 := hexV_lt (h v[k] (List.getElem_mem (by omega)))
    rw [hexN_succ v k (by omega), Nat.pow_succ]
    omega
theorem hexN_small (v : List UInt8) (h : ∀ c ∈ v, hexB c = true) (h6 : v.length ≤ 6) (k : Nat) (hk : k ≤ v.length) : hexN (v.take k) < 16777216 :=
  Nat.lt_of_lt_of_le (hexN_lt v h k hk) (by have := Nat.pow_le_pow_right (n := 16) (by decide) (show k ≤ 6 by omega); omega)
set_option maxRecDepth 100000 in
theorem lower_byte (c : UInt8) (w : World) : Calls Tryd.prog 85 #[.int .u8 (c.toNat : Int)] w fun e w' => e = .returned (.int .u8 (lowI c)) ∧ w' = w := by
  obtain ⟨n, hn⟩ : ∃ n, n = lowI c := ⟨_, rfl⟩
  have hN : bits .or .u8 (c.toNat : Int) 32 = n := hn.symm
  rw [← hn]
  clear hn
  go_enter Tryd.func85, Tryd.ntmps85
  go_wp2
  go_ret
  exact ⟨rfl, rfl⟩
theorem bytes_row (w : World) (l : List UInt8) : Below w.heap.size w (Lib.bytesWorld w 5 ⟨l.toArray⟩) ∧ ∀ (k : Nat) (hk : k < l.length), (Lib.bytesWorld w 5 ⟨l.toArray⟩).cell? ⟨w.heap.size, k, none⟩ = some (.int .u8 (l[k].toNat : Int)) := by
  have hn : (ByteArray.mk l.toArray).size = l.length := by simp [ByteArray.size]
  refine ⟨⟨?_, ?_, ?_, by rw [Lib.bytesWorld_size]; omega, fun k hk => Lib.bytesWorld_at_old w _ _ k hk⟩, fun k hk => ?_⟩
  all_goals try (unfold Lib.bytesWorld World.freeze; rw [if_neg (by decide)]; rfl)
  rw [Lib.bytesWorld_cell w _ _ k (by rw [hn]; exact hk)]
  simp [hk]
set_option maxRecDepth 100000 in
set_option maxHeartbeats 1000000 in
theorem parseU (v : List UInt8) (w : World) (h1 : 1 ≤ v.length) (h6 : v.length ≤ 6) (hx : ∀ c ∈ v, hexB c = true) :
    Calls Tryd.prog 70 #[.string ⟨v.toArray⟩, .int .i64 16, .int .i64 32] w fun e w' => e = .returned (.tuple #[.int .u64 (hexN v : Int), .nilIface]) ∧ Below w.heap.size w w' := by
  have BW := Lib.hid (bytes_row w v)
  have hsz : (ByteArray.mk v.toArray).size = v.length := by simp [ByteArray.size]
  have hne : (⟨v.toArray⟩ : ByteArray).toList.isEmpty = false := by
    rw [ByteArray.toList_eq]
    cases v with
    | nil => simp at h1
    | cons a l => rfl
  obtain ⟨sv, hsv⟩ : ∃ sv : ByteArray, sv = ⟨v.toArray⟩ := ⟨_, rfl⟩
  rw [← hsv] at hne hsz BW ⊢
  have hcv := Lib.run_convert_string_bytes (P := Tryd.prog) w 9 24 5 sv (u := .string) Tryd.underlying9 Tryd.underlying24 Tryd.underlying5
  have n1 : (1 : Int) ≤ (sv.size : Int) := by omega
  have n6 : (sv.size : Int) ≤ 6 := by omega
  have HN := Lib.hid hsz
  have HX := Lib.hid hx
  have H6 := Lib.hid h6
  clear hsz h1 h6 hx hsv
  go_enter Tryd.func70, Tryd.ntmps70
  go_wp2
  go_loopw [12, 13, 101] (fun u x i wr => ∃ k : Nat, k ≤ sv.size ∧ i = .int .i64 (k : Int) ∧ u = .bool false ∧ x = .int .u64 (hexN (v.take k) : Int) ∧ Hid (wr = Lib.bytesWorld w 5 sv)) (fun _ _ i _ => sv.size - (intOf i).toNat)
  case atStart => exact ⟨0, Nat.zero_le _, rfl, rfl, rfl, rfl⟩
  case round =>
    obtain ⟨k, hk, rfl, rfl, rfl, hO⟩ := hrel
    by_cases hlt : k < sv.size
    · have hlt' : (k : Int) < (sv.size : Int) := by omega
      have hk0 : (0 : Int) ≤ (k : Int) := by omega
      have hkl : k < v.length := by rw [← HN.out]; exact hlt
      have cc := BW.out.2 k hkl
      rw [← show wr = _ from hO.out] at cc
      have NX := Lib.hid (hexN_succ v k hkl)
      have hN := hexN_small v HX.out H6.out k (by omega)
      obtain ⟨N, hNN⟩ : ∃ N, N = hexN (v.take k) := ⟨_, rfl⟩
      rw [← hNN] at hN NX ⊢
      obtain ⟨c, hc⟩ : ∃ c, c = v[k] := ⟨_, rfl⟩
      have hcb := HX.out v[k] (List.getElem_mem hkl)
      rw [← hc] at cc NX hcb
      have hcs := hex_cases hcb
      have n95 := hex95 hcb
      obtain ⟨d, hd⟩ : ∃ d, d = hexV c := ⟨_, rfl⟩
      rw [← hd] at NX hcs
      obtain ⟨C, hC⟩ : ∃ C : Int, C = (c.toNat : Int) := ⟨_, rfl⟩
      rw [← hC] at cc hcs n95
      have b2 : ¬ (1152921504606846976 : Int) ≤ (N : Int) := by omega
      have b3 : (N : Int) < 16777216 := by omega
      have b4 : (0 : Int) ≤ (N : Int) := by omega
      have HK := Lib.hid hlt
      have C0 : 0 ≤ C := by omega
      have C1 : C < 256 := by have := c.toNat_lt; omega
      obtain ⟨L, hL⟩ : ∃ L, L = lowI c := ⟨_, rfl⟩
      rw [← hL] at hcs
      have LOW : Hid (∀ w, Calls Tryd.prog 85 #[.int .u8 C] w fun e w' => e = .returned (.int .u8 L) ∧ w' = w) := by
        show ∀ w, Calls _ _ _ _ _
        rw [hC, hL]
        exact lower_byte c
      clear hNN hc hcb hd hkl hC hL
      have h95 : (C == 95) = false := by simpa using n95
      clear n95
      rcases hcs with ⟨c1, c2, c3⟩ | ⟨c1, c2, c3, c4⟩
      · have e1 : ¬ (16 ≤ C - 48) := by omega
        have e2 : (0 : Int) ≤ C - 48 := by omega
        have b5 : ¬ ((N : Int) * 16 + (C - 48) < (N : Int) * 16) := by omega
        have b6 : ¬ (4294967295 < (N : Int) * 16 + (C - 48)) := by omega
        have C3 := Lib.hid c3
        clear c3
        go_wp2
        go_roundw
        case rel => exact ⟨k + 1, HK.out, by go_num, rfl, by rw [NX.out]; have h3_ := C3.out; go_num, hO⟩
        case measure => simp [intOf]; omega
      · have e1 : decide ((16 : Int) ≤ L - 97 + 10) = false := by simp; omega
        have e2 : (0 : Int) ≤ L - 97 := by omega
        have e3 : L ≤ 122 := by omega
        have b2' : decide ((1152921504606846976 : Int) ≤ (N : Int)) = false := by simp; omega
        have b5 : decide ((N : Int) * 16 + (L - 97 + 10) < (N : Int) * 16) = false := by simp; omega
        have b6 : decide (4294967295 < (N : Int) * 16 + (L - 97 + 10)) = false := by simp; omega
        have C4 := Lib.hid c4
        clear c4
        rcases c1 with c1 | c1
        · have k1 : ¬ 48 ≤ C := by omega
          go_wp2_with (go_at_call 85; go_must (refine (LOW.out _).mono ?_; rintro e w1 ⟨rfl, rfl⟩))
          go_roundw
          case rel => exact ⟨k + 1, HK.out, by go_num, rfl, by rw [NX.out]; have h3_ := C4.out; go_num, hO⟩
          case measure => simp [intOf]; omega
        · have k1 : ¬ C ≤ 57 := by omega
          have k2 : 48 ≤ C := by omega
          go_wp2_with (go_at_call 85; go_must (refine (LOW.out _).mono ?_; rintro e w1 ⟨rfl, rfl⟩))
          go_roundw
          case rel => exact ⟨k + 1, HK.out, by go_num, rfl, by rw [NX.out]; have h3_ := C4.out; go_num, hO⟩
          case measure => simp [intOf]; omega
    · obtain rfl : k = sv.size := by omega
      rw [show v.take sv.size = v from by rw [HN.out, List.take_length]]
      go_wp2
      go_ret2
      exact ⟨rfl, by rw [show wr = _ from hO.out]; exact BW.out.1⟩
end Go.Proofs.YtjichadkonlfpaaDoor
