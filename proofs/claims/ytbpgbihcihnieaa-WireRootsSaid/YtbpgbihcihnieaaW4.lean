/- The walks of both Accounts. No conditions. -/
import Derived.Test.YtbpgbihcihnieaaLst
import Derived.Deep.DeepMust
import Derived.Deep.LoopGhost
namespace Go.Proofs.Ytbpgbihcihnieaa
open Go.RowKit

def AccPost (s : ByteArray) (w : World) (e : Ending) (w' : World) : Prop := e = .returned (.bool (accOK s.data.toList)) ∧ Below w.heap.size w w'
theorem AccPost.mk {s : ByteArray} {w w' : World} {b : Bool} (hb : Below w.heap.size w w') (h : accOK s.data.toList = b) : AccPost s w (.returned (.bool b)) w' := ⟨by rw [h], hb⟩

theorem decide_ok (s : ByteArray) (k : Nat) (h : k < s.size) : (okR (Utf8.decode s k).1 → (Utf8.decode s k).2 = 1 ∧ accB s[k] = true) ∧ (¬ okR (Utf8.decode s k).1 → accB s[k] = false) := by
  by_cases ha : (s[k]'h).toNat < 128
  · rw [decode_ascii s k h ha]
    exact ⟨fun h1 => ⟨rfl, accB_yes h1⟩, fun h1 => accB_no h1⟩
  · have hd := decode_high s k h (by omega)
    exact ⟨fun h1 => by have := okR_lt h1; omega, fun _ => accB_no fun h1 => by have := okR_lt h1; omega⟩

theorem acc_nil (s : ByteArray) (h : s.toList = []) : (decide (1 ≤ s.data.toList.length) && decide (s.data.toList.length ≤ 32)) = false := by
  rw [ByteArray.toList_eq] at h; simp [h]
theorem acc_val (s : ByteArray) : (decide (1 ≤ s.data.toList.length) && decide (s.data.toList.length ≤ 32)) = (!s.toList.isEmpty && decide ((s.size : Int) ≤ 32)) := by
  have h2 : s.size = s.data.toList.length := Array.length_toList.symm
  rw [ByteArray.toList_eq, h2]
  cases s.data.toList with
  | nil => rfl
  | cons a l =>
    have h1 : decide (1 ≤ (a :: l).length) = true := by simp
    rw [h1]
    simp only [List.isEmpty_cons, Bool.not_false, Bool.true_and]
    rw [Bool.eq_iff_iff]; simp; omega

theorem acc_val1 (s : ByteArray) (h : (1 : Int) ≤ s.size) : (decide (1 ≤ s.data.toList.length) && decide (s.data.toList.length ≤ 32)) = decide ((s.size : Int) ≤ 32) := by
  have h2 : s.data.toList.length = s.size := Array.length_toList
  rw [h2, Bool.eq_iff_iff]; simp; omega
theorem acc_val0 (s : ByteArray) (h : (s.size : Int) < 1) : (decide (1 ≤ s.data.toList.length) && decide (s.data.toList.length ≤ 32)) = false := by
  have h2 : s.data.toList.length = s.size := Array.length_toList
  rw [h2]; simp; omega
set_option maxRecDepth 100000 in
set_option maxHeartbeats 1000000 in
theorem Account_any (s : ByteArray) (w : World) : Calls Try.prog 16 #[.string s] w (AccPost s w) := by
  have hsl : s.data.toList.length = s.size := Array.length_toList
  have Hsl := Lib.hid hsl; clear hsl
  go_enter Try.func16, Try.ntmps16
  go_wp2
  go_loopg [4] s.size (fun n v wr => ∃ k : Nat, k ≤ s.size ∧ n = s.size - k ∧ wr = w.iter s k ∧ ∀ (j : Nat) (h : j < s.data.toList.length), j < k → accB s.data.toList[j] = true)
  case atStart => exact ⟨0, Nat.zero_le _, rfl, rfl, fun j _ h => by omega⟩
  case round =>
    obtain ⟨k, hk, hn, rfl, hall⟩ := hrel
    have Hall := Lib.hid hall; clear hall
    have Hn := Lib.hid hn; clear hn
    by_cases hlt : k < s.size
    · obtain ⟨hyes, hno⟩ := decide_ok s k hlt
      have hnx := fun ty => run_next_any (P := Try.prog) w s k ty hlt
      have hx := decode_le s k
      generalize Utf8.decode s k = p at *
      obtain ⟨x, d⟩ := p
      dsimp only at hyes hno hnx hx
      by_cases hok : okR x
      · obtain ⟨rfl, hacc⟩ := hyes hok
        clear hyes hno
        have hok' := hok
        unfold okR at hok'
        clear hok
        rcases hok' with ⟨h1, h2⟩ | ⟨h1, h2⟩ | rfl | rfl | rfl
        all_goals
          go_wp2
          go_roundg (s.size - (k + 1))
          case measure => have := Hn.out; omega
          case rel =>
            refine ⟨k + 1, by omega, rfl, rfl, fun j hj hjk => ?_⟩
            by_cases hjk' : j = k
            · subst hjk'; exact hacc
            · exact Hall.out j hj (by omega)
      · have hacc := hno hok
        clear hyes hno
        unfold okR at hok
        go_wp2
        all_goals
          go_ret
          exact AccPost.mk ((Below.refl _ _).alloc (Nat.le_refl _) _) (accOK_no (k := k) (by have := Hsl.out; omega) hacc)
    · have hnx := fun ty => run_next_end (P := Try.prog) w s k ty hlt
      obtain rfl : k = s.size := by omega
      have hend := Lib.hid (accOK_end (l := s.data.toList) fun k hk => Hall.out k hk (by have := Hsl.out; omega))
      go_wp2
      · have he : s.toList = [] := by assumption
        go_ret
        exact AccPost.mk ((Below.refl _ _).alloc (Nat.le_refl _) _) (hend.out.trans (acc_nil s he))
      · go_ret
        exact AccPost.mk ((Below.refl _ _).alloc (Nat.le_refl _) _) (hend.out.trans (acc_val s))

/-- The reference's Account. -/
theorem rAccount_any (s : ByteArray) (w : World) (hs : s.size ≤ 9223372036854775807) : Calls Try.prog 17 #[.string s] w (AccPost s w) := by
  have hsl : s.data.toList.length = s.size := Array.length_toList
  have Hsl := Lib.hid hsl; clear hsl
  go_enter Try.func17, Try.ntmps17
  go_wp2
  go_loop [3] (fun i => ∃ k : Nat, k ≤ s.size ∧ i = .int .i64 k ∧ ∀ (j : Nat) (h : j < s.data.toList.length), j < k → accB s.data.toList[j] = true) (fun i => s.size - (intOf i).toNat)
  case atStart => exact ⟨0, Nat.zero_le _, rfl, fun j _ h => by omega⟩
  case round =>
    obtain ⟨k, hk, rfl, hall⟩ := hrel
    have Hall := Lib.hid hall; clear hall
    by_cases hlt : k < s.size
    · have hbk : (s[k]'hlt).toNat < 256 := (s[k]'hlt).toNat_lt
      by_cases hok : okR (s[k]'hlt).toNat
      · have hacc := Lib.hid (accB_yes hok)
        have hok' := hok
        unfold okR at hok'
        clear hok
        rcases hok' with ⟨h1, h2⟩ | ⟨h1, h2⟩ | h1 | h1 | h1
        all_goals
          go_wp2
          go_round
          case rel =>
            refine ⟨k + 1, by omega, by go_num, fun j hj hjk => ?_⟩
            by_cases hjk' : j = k
            · subst hjk'; exact hacc.out
            · exact Hall.out j hj (by omega)
          case measure => simp [intOf]; omega
      · have hacc := Lib.hid (accB_no hok)
        unfold okR at hok
        have hc : (97 ≤ (s[k]'hlt).toNat ∧ 122 < (s[k]'hlt).toNat) ∨ ((s[k]'hlt).toNat < 97 ∧ 48 ≤ (s[k]'hlt).toNat ∧ 57 < (s[k]'hlt).toNat ∧ (s[k]'hlt).toNat ≠ 95) ∨ ((s[k]'hlt).toNat < 48 ∧ (s[k]'hlt).toNat ≠ 46 ∧ (s[k]'hlt).toNat ≠ 45) := by omega
        clear hok
        rcases hc with ⟨h1, h2⟩ | ⟨h1, h2, h3, h4⟩ | ⟨h1, h2, h3⟩
        all_goals
          have h5 : (((s[k]'hlt).toNat : Int) == 45) = false := beq_false_of_ne (by omega)
          go_wp2
          all_goals first
            | (exfalso; omega)
            | (exfalso; rename_i hq; simp at hq; omega)
            | (go_ret; exact AccPost.mk (Below.refl _ _) (accOK_no (k := k) (by have := Hsl.out; omega) hacc.out))
    · obtain rfl : k = s.size := by omega
      have hend := Lib.hid (accOK_end (l := s.data.toList) fun k hk => Hall.out k hk (by have := Hsl.out; omega))
      go_wp2
      · have h1 : (1 : Int) ≤ s.size := by assumption
        go_ret
        exact AccPost.mk (Below.refl _ _) (hend.out.trans (acc_val1 s h1))
      · have h1 : (s.size : Int) < 1 := by assumption
        go_ret
        exact AccPost.mk (Below.refl _ _) (hend.out.trans (acc_val0 s h1))
end Go.Proofs.Ytbpgbihcihnieaa
