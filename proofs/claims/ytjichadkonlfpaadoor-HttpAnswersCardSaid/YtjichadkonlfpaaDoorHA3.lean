/- Decimal of the reference; the three digits of a status. No conditions. -/
import Derived.Test.YtjichadkonlfpaaDoorHA2
namespace Go.Proofs.YtjichadkonlfpaaDoor
open Go.RowKit
theorem bapp (a b : List UInt8) : (⟨a.toArray⟩ : ByteArray) ++ ⟨b.toArray⟩ = ⟨(a ++ b).toArray⟩ := by
  apply ByteArray.ext
  simp
def ddP (m : Nat) : List UInt8 := if m = 0 then [] else Lib.decDigits m
theorem ddP_step {m : Nat} (h : 0 < m) : ddP m = ddP (m / 10) ++ [UInt8.ofNat (48 + m % 10)] := by
  unfold ddP
  rw [if_neg (by omega), Lib.decDigits]
  split
  · rename_i h10
    rw [if_pos (by omega), Nat.mod_eq_of_lt h10]
    rfl
  · rename_i h10
    rw [if_neg (by omega)]
def DecI (n m : Nat) (r : List UInt8) : Prop := (r = [] ∧ m = n) ∨ (r ≠ [] ∧ Lib.decDigits n = ddP m ++ r)
theorem DecI.step {n m : Nat} {r : List UInt8} (h : DecI n m r) (hc : 0 < m ∨ r = []) : DecI n (m / 10) (UInt8.ofNat (48 + m % 10) :: r) := by
  refine .inr ⟨by simp, ?_⟩
  rcases h with ⟨rfl, rfl⟩ | ⟨h1, h2⟩
  · rcases Nat.eq_zero_or_pos m with h0 | h0
    · subst h0; simp [ddP, Lib.decDigits]
    · have := ddP_step h0
      rw [← this]
      unfold ddP
      rw [if_neg (by omega)]
  · rcases hc with hc | hc
    · rw [h2, ddP_step hc, List.append_assoc]; rfl
    · exact absurd hc h1
theorem DecI.done {n m : Nat} {r : List UInt8} (h : DecI n m r) (hm : m = 0) (hr : r ≠ []) : r = Lib.decDigits n := by
  rcases h with ⟨h1, _⟩ | ⟨_, h2⟩
  · exact absurd h1 hr
  · rw [h2, hm]; rfl
theorem bytes_empty (r : List UInt8) : (⟨r.toArray⟩ : ByteArray).toList.isEmpty = r.isEmpty := by rw [ByteArray.toList_eq]
set_option maxRecDepth 100000 in
set_option maxHeartbeats 1000000 in
theorem decimal_any (n : Nat) (hn : n ≤ 140737488355328) (w : World) : Calls Tryd.prog 11 #[.int .i64 (n : Int)] w fun e w' => e = .returned (.string ⟨(Lib.decDigits n).toArray⟩) ∧ Below w.heap.size w w' := by
  go_enter Tryd.func11, Tryd.ntmps11
  go_wp2
  go_loopw [0, 3] (fun i s wr => ∃ (m : Nat) (sv : ByteArray) (r : List UInt8), i = .int .i64 (m : Int) ∧ s = .string sv ∧ m ≤ n ∧ sv.size + m ≤ n + 1 ∧ Hid (sv = ⟨r.toArray⟩ ∧ DecI n m r ∧ Below w.heap.size w wr)) (fun i s _ => (intOf i).toNat + (match s with | .string sv => if sv.size = 0 then 1 else 0 | _ => 0))
  case atStart => exact ⟨n, _, [], rfl, rfl, Nat.le_refl _, by show 0 + n ≤ n + 1; omega, rfl, .inl ⟨rfl, rfl⟩, Below.refl _ _⟩
  case round =>
    obtain ⟨m, sv, r, rfl, rfl, hm, hb, hO⟩ := hrel
    have hb1 : ¬ (9223372036854775807 < 1 + sv.size) := by omega
    have HBND := Lib.hid hb
    clear hb
    have hmI : (m : Int) ≤ 140737488355328 := by omega
    have hm0 : (0 : Int) ≤ (m : Int) := by omega
    have hem : sv.toList.isEmpty = r.isEmpty := by rw [hO.out.1]; exact bytes_empty r
    have hsz : sv.size = r.length := by rw [hO.out.1]; simp [ByteArray.size]
    by_cases hc : 0 < m ∨ r = []
    · have ST := Lib.hid (hO.out.2.1.step hc)
      have d0 : (0 : Int) ≤ (m : Int) % 10 := by omega
      have d1 : (m : Int) % 10 ≤ 9 := by omega
      obtain ⟨d, hd⟩ : ∃ d : UInt8, d = UInt8.ofNat (48 + m % 10) := ⟨_, rfl⟩
      have hdn : (d.toNat : Int) = 48 + (m : Int) % 10 := by rw [hd]; simp; omega
      rw [← hd] at ST
      have RS : Hid (∀ w1 : World, (convert 24 9 (.slice (some ⟨w1.heap.size, 0, none⟩) 1 1)).run Tryd.prog (w1.alloc (.cells #[.int .u8 (48 + (m : Int) % 10)] 5)) = .ok (.string ⟨[d].toArray⟩) (w1.alloc (.cells #[.int .u8 (48 + (m : Int) % 10)] 5))) := by
        intro w1
        rw [← hdn]
        exact run_str8 (reads_block (l := [d]) (n := 1) (heap_alloc_new w1 _) rfl) 1
      have rs := RS.out wr
      have HN := Lib.hid hm
      have HC := Lib.hid hc
      have HS := Lib.hid hsz
      have HB : Hid (Below w.heap.size w (wr.alloc (.cells #[.int .u8 (48 + (m : Int) % 10)] 5))) := hO.out.2.2.alloc hO.out.2.2.size _
      have g0 : True := trivial
      clear hd hdn hm hsz hmI
      have hmI : (m : Int) ≤ 140737488355328 := by have := HN.out; omega
      by_cases hp : 0 < m
      · have g1 : decide ((0 : Int) < (m : Int)) = true := by simp; omega
        have HP := Lib.hid hp
        clear hc hem
        go_wp2
        go_roundw
        case rel => exact ⟨m / 10, _, d :: r, by go_num, rfl, by have := HN.out; omega, by have := HBND.out; have := HP.out; rw [ByteArray.size_append]; show 1 + sv.size + m / 10 ≤ n + 1; omega, by rw [hO.out.1]; exact bapp [d] r, ST.out, HB.out⟩
        case measure =>
          have h1 := HP.out
          have h2 : (⟨[d].toArray⟩ ++ sv : ByteArray).size = 1 + sv.size := by rw [ByteArray.size_append]; rfl
          show (m / 10 : Int).toNat + (if (⟨[d].toArray⟩ ++ sv : ByteArray).size = 0 then 1 else 0) < (m : Int).toNat + (if sv.size = 0 then 1 else 0)
          rw [h2, if_neg (by omega)]
          omega
      · have hz : m = 0 := by omega
        have hr : r = [] := by rcases hc with h | h; omega; exact h
        subst hz hr
        have rs48 : (convert 24 9 (.slice (some ⟨wr.heap.size, 0, none⟩) 1 1)).run Tryd.prog (wr.alloc (.cells #[.int .u8 48] 5)) = .ok (.string ⟨[d].toArray⟩) (wr.alloc (.cells #[.int .u8 48] 5)) := rs
        have hem' : sv.toList.isEmpty = true := hem
        have RS48 := Lib.hid rs48
        clear rs hc hp g0 hem rs48
        have rs48 := RS48.out
        go_wp2
        go_roundw
        case rel => exact ⟨0, _, d :: [], by go_num, rfl, Nat.zero_le _, by have h1 : sv.size = 0 := HS.out; rw [ByteArray.size_append]; show 1 + sv.size + 0 ≤ n + 1; omega, by rw [hO.out.1]; exact bapp [d] [], ST.out, HB.out⟩
        case measure =>
          have h1 : sv.size = 0 := HS.out
          have h2 : (⟨[d].toArray⟩ ++ sv : ByteArray).size = 1 + sv.size := by rw [ByteArray.size_append]; rfl
          show (0 : Int).toNat + (if (⟨[d].toArray⟩ ++ sv : ByteArray).size = 0 then 1 else 0) < (0 : Int).toNat + (if sv.size = 0 then 1 else 0)
          rw [h2, if_neg (by omega), if_pos h1]
          omega
    · have h1 : m = 0 := by omega
      have h2 : r ≠ [] := fun h => hc (.inr h)
      have h3 : sv.toList.isEmpty = false := by rw [hem]; cases r with | nil => exact absurd rfl h2 | cons a r => rfl
      have HD := Lib.hid (hO.out.2.1.done h1 h2)
      subst h1
      clear hc h2 hem hsz
      go_wp2
      go_ret
      exact ⟨by rw [← HD.out, ← hO.out.1]; rfl, hO.out.2.2⟩
end Go.Proofs.YtjichadkonlfpaaDoor
