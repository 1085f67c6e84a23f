/- The texts RM3 RM4 of this work, merged by wip/merge.py. No conditions. -/
import Derived.Test.YtkbopeoaoakfnaaDoorQXD
import Derived.Test.YtkbopeoaoakfnaaDoorQRD
import Derived.Test.YtkbopeoaoakfnaaDoorQTB
import Derived.Test.YtkbopeoaoakfnaaDoorQTF
namespace Go.Proofs.YtkbopeoaoakfnaaDoor
open Go.RowKit
/-- A tree's five cells. -/
def Row5 (xs : List Value) : Prop := ∃ (k : Int) (b : Bool) (s : List UInt8) (Ak : Option Addr) (nk ck : Nat) (Ap : Option Addr) (np cp : Nat), xs = [.int .i64 k, .bool b, .string ⟨s.toArray⟩, .slice Ak nk ck, .slice Ap np cp]
def RGetP (w : World) (F : Nat → Prop) (kind : Bool) (key : List UInt8) (ks : List (List UInt8)) (ps : List TR) (e : Ending) (w' : World) : Prop :=
  Below w.heap.size w w' ∧ ∃ xs b, e = .returned (.tuple #[.agg xs.toArray, .bool b]) ∧ Row5 xs ∧ ((∃ i, kind = true ∧ At1 key ks i ∧ b = true ∧ ∀ t, ps[i]? = some t → IsT w F xs t) ∨ ((kind = true → ∀ i : Nat, ks[i]? ≠ some key) ∧ b = false))
theorem turn_below {g B : Nat} {w0 w w' : World} (h : Below B w0 w) (ht : Turn g w w') (hB : B ≤ w.heap.size) (hg : B ≤ g) : Below B w0 w' :=
  ⟨ht.os.trans h.os, ht.tape.trans h.tape, ht.output.trans h.output, Nat.le_trans h.size ht.size, fun q hq => (ht.block q (by omega) (by omega)).trans (h.block q hq)⟩
abbrev zero5 : Array Value := #[.int .i64 0, .bool false, .string ⟨#[]⟩, .slice none 0 0, .slice none 0 0]
theorem row_zero5 : Row5 [.int .i64 0, .bool false, .string ⟨#[]⟩, .slice none 0 0, .slice none 0 0] := ⟨0, false, [], none, 0, 0, none, 0, 0, rfl⟩
set_option maxRecDepth 100000 in
set_option maxHeartbeats 1000000 in
theorem rget_any {w : World} {F : Nat → Prop} {k : Int} {b : Bool} {s : List UInt8} {Ak : Option Addr} {ck : Nat} {ks : List (List UInt8)} {Ap : Option Addr} {cp : Nat} {uss : List (List Value)} {ps : List TR} (key : List UInt8) (KX : ByteArray) (hkx : KX = ⟨key.toArray⟩) (hu : uss.length = ps.length) (hkl : ks.length = ps.length) (hk : Rd w F Ak (strs ks)) (hp : Rd w F Ap uss.flatten)
    (he : ∀ (i : Nat) (us : List Value) (t : TR), uss[i]? = some us → ps[i]? = some t → IsT w F us t) (hF : ∀ k, F k → k < w.heap.size) (hln : ps.length ≤ 140737488000000) :
    Calls Tryd.prog 23 #[.agg #[.int .i64 k, .bool b, .string ⟨s.toArray⟩, .slice Ak ks.length ck, .slice Ap ps.length cp], .string KX] w (RGetP w F (decide (k = 5)) key ks ps) := by
  obtain ⟨SB, hSB⟩ : ∃ SB : ByteArray, SB = ⟨s.toArray⟩ := ⟨_, rfl⟩
  obtain ⟨B, hBe⟩ : ∃ B, B = w.heap.size := ⟨_, rfl⟩
  obtain ⟨w0, hw0⟩ : ∃ w0, w0 = w.alloc (.cells #[.int .i64 k, .bool b, .string SB, .slice Ak ks.length ck, .slice Ap ps.length cp] 35) := ⟨_, rfl⟩
  obtain ⟨w1, hw1⟩ : ∃ w1, w1 = w0.alloc (.cells zero5 35) := ⟨_, rfl⟩
  have hs0 : w0.heap.size = B + 1 := by rw [hw0, hBe]; simp
  have hx0 : w0.heap[B]? = some (.cells #[.int .i64 k, .bool b, .string SB, .slice Ak ks.length ck, .slice Ap ps.length cp] 35 (0, 0)) := by rw [hw0, hBe]; exact heap_alloc_new _ _
  have hx1 : w1.heap[B]? = some (.cells #[.int .i64 k, .bool b, .string SB, .slice Ak ks.length ck, .slice Ap ps.length cp] 35 (0, 0)) := by
    rw [hw1]
    exact (((Below.refl w0.heap.size w0).alloc (Nat.le_refl _) _).block B (by omega)).trans hx0
  have hz1 : w1.heap[B + 1]? = some (.cells zero5 35 (0, 0)) := by rw [hw1, ← hs0]; exact heap_alloc_new _ _
  have hb1 : Below B w w1 := by rw [hw1, hw0]; exact ((Below.refl B w).alloc (by omega) _).alloc (by simp; omega) _
  have hs1 : w1.heap.size = B + 2 := by rw [hw1]; simp; omega
  obtain ⟨z0, z1, z2, z3, z4, zf⟩ := row5 hx1
  obtain ⟨y0, y1, y2, y3, y4, yf⟩ := row5 hz1
  have HZ := Lib.hid hz1
  have HB1 := Lib.hid hb1
  have HS1 := Lib.hid hs1
  have HBe := Lib.hid hBe
  have HE := Lib.hid he
  have HRK := Lib.hid hk
  have HR := Lib.hid hp
  have HF : Hid (∀ q, F q → q < B) := by rw [hBe]; exact hF
  have HU := Lib.hid (And.intro hu hkl)
  have HKX := Lib.hid hkx
  have HFIVE : Hid (∀ us ∈ uss, us.length = 5) := by
    intro us hus
    obtain ⟨i, hi, rfl⟩ := List.getElem_of_mem hus
    have h1 : i < ps.length := by omega
    exact (he i _ _ (List.getElem?_eq_getElem hi) (List.getElem?_eq_getElem h1)).five
  clear he hk hp hF hu hkx hx0 hx1 hz1 hb1 hs0 hs1
  rw [← hSB]
  clear hSB
  by_cases h5 : k = 5
  · subst h5
    have hdk : decide ((5 : Int) = 5) = true := rfl
    rw [hdk]
    have HKL := Lib.hid hkl
    clear hdk hkl
    go_enter Tryd.func23, Tryd.ntmps23
    go_upto_region 1 with (fail)
    rw [← hw0, ← hw1, ← hBe]
    clear hw0 hw1 hBe
    go_wp2
    go_loopw [14] (fun i wr => ∃ n : Nat, n ≤ ps.length ∧ i = .int .i64 (n : Int) ∧ wr = w1 ∧ ∀ j, j < n → ks[j]? ≠ some key) (fun i _ => ps.length - (intOf i).toNat)
    case atStart => exact ⟨0, Nat.zero_le _, rfl, rfl, fun j hj => by omega⟩
    case round =>
      obtain ⟨n, hn, rfl, hw, hnone⟩ := hrel
      have hw := hw.symm
      subst hw
      have HN := Lib.hid hnone
      clear hnone
      by_cases hlt : n < ps.length
      · obtain ⟨j, hj⟩ : ∃ j, ps[n]? = some j := ⟨_, List.getElem?_eq_getElem hlt⟩
        have hlu : n < uss.length := by rw [HU.out.1]; exact hlt
        have hlk : n < ks.length := by rw [HU.out.2]; exact hlt
        obtain ⟨us, hus⟩ : ∃ us, uss[n]? = some us := ⟨_, List.getElem?_eq_getElem hlu⟩
        obtain ⟨kk, hkey⟩ : ∃ kk, ks[n]? = some kk := ⟨_, List.getElem?_eq_getElem hlk⟩
        have hmg := flat5 uss HFIVE.out n us hus
        have hist := HE.out n us j hus hj
        have hkk := strs_get ks n kk hkey
        obtain ⟨bk, offk, rfl, hbk, hck⟩ := HRK.out (by intro h0; rw [h0] at hkk; simp at hkk)
        obtain ⟨KB, hKB⟩ : ∃ KB : ByteArray, KB = ⟨kk.toArray⟩ := ⟨_, rfl⟩
        have hckk : w1.cell? ⟨bk, offk + n, none⟩ = some (.string KB) := by
          rw [hKB]
          exact (HB1.out.cell (p := ⟨bk, offk + n, none⟩) (HF.out bk hbk)).trans (hck n _ hkk)
        have hkI : (n : Int) < (ks.length : Int) := by have := HKL.out; omega
        have hk0 : (0 : Int) ≤ (n : Int) := by omega
        have hpI : (n : Int) < (ps.length : Int) := by omega
        have hi3 : (n : Int) + 1 ≤ 140737488000000 := by omega
        obtain ⟨kx, bx, sx, Ax, nx, cx, Ay, ny, cy, rfl⟩ := hist.form
        have hne : uss.flatten ≠ [] := by
          intro h0
          have := hmg 0 _ rfl
          rw [h0] at this
          simp at this
        obtain ⟨b0, off, rfl, hb0, hc0⟩ := HR.out hne
        obtain ⟨SX, hSX⟩ : ∃ SX : ByteArray, SX = ⟨sx.toArray⟩ := ⟨_, rfl⟩
        rw [← hSX] at hmg
        have hrow : w1.rangeAt b0 (off + n * 5) (#[Value.int .i64 kx, .bool bx, .string SX, .slice Ax nx cx, .slice Ay ny cy] : Array Value).toList := by
          intro i x hx
          rw [Nat.add_assoc]
          exact (HB1.out.cell (p := ⟨b0, off + (n * 5 + i), none⟩) (HF.out b0 hb0)).trans (hc0 (n * 5 + i) x (hmg i x (by simpa using hx)))
        have HIST := Lib.hid hist
        have HLT := Lib.hid hlt
        have HROW := Lib.hid hrow
        have HJ := Lib.hid hj
        have HSX := Lib.hid hSX
        by_cases hke : kk = key
        · have heq : (KB.toList == KX.toList) = true := by rw [hKB, HKX.out, hke]; simp
          have HA : Hid (At1 key ks n) := ⟨by rw [hkey, hke], HN.out⟩
          clear hj hkey hist hlt hrow hc0 hus hb0 hne hlu hlk hmg hke hKB hkk hck hbk hSX
          go_wp2_with (first
            | (refine wpList_load_arr rfl _ _ rfl b0 _ rfl #[Value.int .i64 kx, .bool bx, .string SX, .slice Ax nx cx, .slice Ay ny cy] _ (by with_reducible exact HROW.out) Tryd.underlying35 rfl tree5 ?_))
          have h9 := set5_row (a0 := .int .i64 kx) (a1 := .bool bx) (a2 := .string SX) (a3 := .slice Ax nx cx) (a4 := .slice Ay ny cy) HZ.out
          refine bodyPost_ret (results_row_tmp rfl _ _ (B + 1) _ _ _ _ rfl h9 Tryd.underlying35 rfl tree5) rfl ?_
          refine ⟨by rw [← HBe.out]; exact turn_below HB1.out set5_turn (by have := HS1.out; omega) (by omega), [.int .i64 kx, .bool bx, .string SX, .slice Ax nx cx, .slice Ay ny cy], _, rfl, ⟨kx, bx, sx, Ax, nx, cx, Ay, ny, cy, by rw [HSX.out]⟩, .inl ⟨n, rfl, HA.out, rfl, fun t ht => ?_⟩⟩
          rw [HJ.out] at ht
          cases ht
          rw [HSX.out]
          exact HIST.out
        · have heq : (KB.toList == KX.toList) = false := by
            rw [hKB, HKX.out, Lib.toList_data, Lib.toList_data]
            simpa using hke
          have HA : Hid (∀ j, j < n + 1 → ks[j]? ≠ some key) := fun j2 hj2 => by
            rcases Nat.lt_or_ge j2 n with h | h
            · exact HN.out j2 h
            · obtain rfl : j2 = n := by omega
              rw [hkey]
              simpa using hke
          clear hj hkey hist hlt hrow hc0 hus hb0 hne hlu hlk hmg hke hKB hkk hck hbk hSX
          go_wp2
          go_roundw
          case rel => exact ⟨n + 1, HLT.out, by go_num, by first | rfl | trivial, HA.out⟩
          case measure => have := HLT.out; simp [intOf]; omega
      · have hkI : (ks.length : Int) ≤ (n : Int) := by have := HKL.out; omega
        have HA : Hid (∀ i : Nat, ks[i]? ≠ some key) := fun i => by
          rcases Nat.lt_or_ge i n with h | h
          · exact HN.out i h
          · rw [List.getElem?_eq_none (by rw [HU.out.2]; omega)]; simp
        clear hlt
        go_wp2
        have h9 := set5_row (a0 := .int .i64 0) (a1 := .bool false) (a2 := .string ⟨#[]⟩) (a3 := .slice none 0 0) (a4 := .slice none 0 0) HZ.out
        refine bodyPost_ret (results_row_tmp rfl _ _ (B + 1) _ _ _ _ rfl h9 Tryd.underlying35 rfl tree5) rfl ?_
        exact ⟨by rw [← HBe.out]; exact turn_below HB1.out set5_turn (by have := HS1.out; omega) (by omega), _, _, rfl, row_zero5, .inr ⟨fun _ => HA.out, rfl⟩⟩
  · have h5b : (k != 5) = true := by simpa using h5
    have h5c : (k == 5) = false := by simpa using h5
    have hdk : decide (k = 5) = false := decide_eq_false h5
    rw [hdk]
    clear hdk hkl
    go_enter Tryd.func23, Tryd.ntmps23
    go_upto_region 1 with (fail)
    rw [← hw0, ← hw1, ← hBe]
    clear hw0 hw1 hBe
    go_wp2
    have h9 := set5_row (a0 := .int .i64 0) (a1 := .bool false) (a2 := .string ⟨#[]⟩) (a3 := .slice none 0 0) (a4 := .slice none 0 0) HZ.out
    refine bodyPost_ret (results_row_tmp rfl _ _ (B + 1) _ _ _ _ rfl h9 Tryd.underlying35 rfl tree5) rfl ?_
    exact ⟨by rw [← HBe.out]; exact turn_below HB1.out set5_turn (by have := HS1.out; omega) (by omega), _, _, rfl, row_zero5, .inr ⟨(fun h => by cases h), rfl⟩⟩
end Go.Proofs.YtkbopeoaoakfnaaDoor

namespace Go.Proofs.YtkbopeoaoakfnaaDoor
open Go.RowKit
section
variable {w : World} {F : Nat → Prop} {v : Value} {k : Int} {b : Bool} {s : List UInt8} {ks : List (List UInt8)} {ps : List TR}
theorem isV_kind (h : IsV w F v (valT (.mk k b s ks ps))) : (k ≠ 3 → NotT 41 v) ∧ (k ≠ 4 → NotT 49 v) ∧ (k ≠ 5 → NotT 73 v) ∧ (k = 3 → v = .iface 41 (.string ⟨s.toArray⟩)) ∧ (k = 4 → ∃ A c, v = .iface 49 (.slice A ps.length c)) ∧
    (k = 5 → IsV w F v (.obj (keysOf ks ps.length) (valTL ps))) := by
  have hl : (valTL ps).length = ps.length := by rw [valTL_map]; simp
  rw [valT] at h
  by_cases h0 : k = 0
  · rw [if_pos h0] at h
    cases h
    exact ⟨fun _ => .inr ⟨_, _, rfl, by decide⟩, fun _ => .inr ⟨_, _, rfl, by decide⟩, fun _ => .inr ⟨_, _, rfl, by decide⟩, fun e => by omega, fun e => by omega, fun e => by omega⟩
  rw [if_neg h0] at h
  by_cases h1 : k = 1
  · rw [if_pos h1] at h
    cases h
    exact ⟨fun _ => .inr ⟨_, _, rfl, by decide⟩, fun _ => .inr ⟨_, _, rfl, by decide⟩, fun _ => .inr ⟨_, _, rfl, by decide⟩, fun e => by omega, fun e => by omega, fun e => by omega⟩
  rw [if_neg h1] at h
  by_cases h2 : k = 2
  · rw [if_pos h2] at h
    cases h
    exact ⟨fun _ => .inr ⟨_, _, rfl, by decide⟩, fun _ => .inr ⟨_, _, rfl, by decide⟩, fun _ => .inr ⟨_, _, rfl, by decide⟩, fun e => by omega, fun e => by omega, fun e => by omega⟩
  rw [if_neg h2] at h
  by_cases h3 : k = 3
  · rw [if_pos h3] at h
    cases h
    exact ⟨fun e => absurd h3 e, fun _ => .inr ⟨_, _, rfl, by decide⟩, fun _ => .inr ⟨_, _, rfl, by decide⟩, fun _ => rfl, fun e => by omega, fun e => by omega⟩
  rw [if_neg h3] at h
  by_cases h4 : k = 4
  · rw [if_pos h4] at h
    generalize valTL ps = l at h hl
    cases h with
    | list A c us l hu hr he => exact ⟨fun _ => .inr ⟨_, _, rfl, by decide⟩, fun e => absurd h4 e, fun _ => .inr ⟨_, _, rfl, by decide⟩, fun e => by omega, fun _ => ⟨A, c, by rw [hl]⟩, fun e => by omega⟩
  rw [if_neg h4] at h
  by_cases h5 : k = 5
  · rw [if_pos h5] at h
    have h' := h
    cases h with
    | obj A c us ks l hu hk hr he => exact ⟨fun _ => .inr ⟨_, _, rfl, by decide⟩, fun _ => .inr ⟨_, _, rfl, by decide⟩, fun e => absurd h5 e, fun e => by omega, fun e => by omega, fun _ => h'⟩
  rw [if_neg h5] at h
  cases h
  exact ⟨fun _ => .inl rfl, fun _ => .inl rfl, fun _ => .inl rfl, fun e => by omega, fun e => by omega, fun e => by omega⟩
theorem kText_yes (h : IsV w F v (valT (.mk k b s ks ps))) (hk : k = 3) : Calls Tryd.prog 17 #[v] w fun e w' => e = .returned (.tuple #[.string ⟨s.toArray⟩, .bool true]) ∧ w' = w := by
  rw [(isV_kind h).2.2.2.1 hk]
  have f1 := fun w => is_Text (.string ⟨s.toArray⟩) w
  go_enter Tryd.func17, Tryd.ntmps17
  go_wp2
  go_ret2
  exact ⟨rfl, rfl⟩
theorem kText_no (h : IsV w F v (valT (.mk k b s ks ps))) (hk : k ≠ 3) : Calls Tryd.prog 17 #[v] w fun e w' => e = .returned (.tuple #[.string ⟨#[]⟩, .bool false]) ∧ w' = w := asText_no ((isV_kind h).1 hk) h.one w
theorem kList_yes (h : IsV w F v (valT (.mk k b s ks ps))) (hk : k = 4) : Calls Tryd.prog 21 #[v] w fun e w' => (∃ A c, e = .returned (.tuple #[.slice A ps.length c, .bool true])) ∧ w' = w := by
  obtain ⟨A, c, rfl⟩ := (isV_kind h).2.2.2.2.1 hk
  have f1 := fun w => is_List (.slice A ps.length c) w
  obtain ⟨n, hn⟩ : ∃ n, n = ps.length := ⟨_, rfl⟩
  rw [← hn] at f1 ⊢
  clear h hn
  go_enter Tryd.func21, Tryd.ntmps21
  go_wp2
  go_ret2
  exact ⟨⟨A, c, rfl⟩, rfl⟩
theorem kList_no (h : IsV w F v (valT (.mk k b s ks ps))) (hk : k ≠ 4) : Calls Tryd.prog 21 #[v] w fun e w' => e = .returned (.tuple #[.slice none 0 0, .bool false]) ∧ w' = w := asList_no ((isV_kind h).2.1 hk) h.one w
theorem kMT_yes (h : IsV w F v (valT (.mk k b s ks ps))) (hk : k = 3) : Calls Tryd.prog 24 #[v] w fun e w' => e = .returned (.tuple #[.string ⟨s.toArray⟩, .bool false]) ∧ Below w.heap.size w w' := by
  rw [(isV_kind h).2.2.2.1 hk]
  exact lawmustText_ok _ w
theorem kMT_no (h : IsV w F v (valT (.mk k b s ks ps))) (hk : k ≠ 3) : Calls Tryd.prog 24 #[v] w fun e w' => e = .returned (.tuple #[.string ⟨#[]⟩, .bool true]) ∧ Below w.heap.size w w' := lawmustText_bad ((isV_kind h).1 hk) w
theorem kMO_yes (h : IsV w F v (valT (.mk k b s ks ps))) (hk : k = 5) : Calls Tryd.prog 25 #[v] w fun e w' => e = .returned (.tuple #[.int .i64 (ps.length : Int), .bool false]) ∧ Below w.heap.size w w' := by
  have h2 := (isV_kind h).2.2.2.2.2 hk
  have hl : (valTL ps).length = ps.length := by rw [valTL_map]; simp
  generalize valTL ps = l at h2 hl
  cases h2 with
  | obj A c us ks l hu hkk hr he => rw [← hl]; exact lawmustObject_ok A _ c w
theorem kMO_no (h : IsV w F v (valT (.mk k b s ks ps))) (hk : k ≠ 5) : Calls Tryd.prog 25 #[v] w fun e w' => e = .returned (.tuple #[.int .i64 0, .bool true]) ∧ Below w.heap.size w w' := lawmustObject_bad ((isV_kind h).2.2.1 hk) w
/-- No such key: both Gets. -/
theorem kGet_no (h : IsV w F v (valT (.mk k b s ks ps))) (key : List UInt8) (KX : ByteArray) (hkx : KX = ⟨key.toArray⟩) (hF : ∀ q, F q → q < w.heap.size) (hln : ps.length ≤ 140737488000000) (hno : k = 5 → ∀ i : Nat, (keysOf ks ps.length)[i]? ≠ some key) : Calls Tryd.prog 22 #[v, .string KX] w fun e w' => e = .returned (.tuple #[.nilIface, .bool false]) ∧ Below w.heap.size w w' := by
  by_cases hk : k = 5
  · have h2 := (isV_kind h).2.2.2.2.2 hk
    have hl : (valTL ps).length = ps.length := by rw [valTL_map]; simp
    have hno := hno hk
    generalize valTL ps = l at h2 hl
    generalize keysOf ks ps.length = KS at h2 hno
    cases h2 with
    | obj A c us ks l hu hkk hr he =>
      refine (get_obj key KX hkx hu hkk hr he hF (by omega)).mono ?_
      rintro e w' ⟨hb, ⟨i, x, h1, _⟩ | ⟨_, rfl⟩⟩
      · exact absurd h1.1 (hno i)
      · exact ⟨rfl, hb⟩
  · exact get_no ((isV_kind h).2.2.1 hk) h.one KX w
theorem kGet_yes (h : IsV w F v (valT (.mk k b s ks ps))) (key : List UInt8) (KX : ByteArray) (hkx : KX = ⟨key.toArray⟩) (hF : ∀ q, F q → q < w.heap.size) (hln : ps.length ≤ 140737488000000) (hk : k = 5) {i : Nat} (hi : At1 key (keysOf ks ps.length) i) {p : TR} (hp : ps[i]? = some p) : Calls Tryd.prog 22 #[v, .string KX] w fun e w' => (∃ x, e = .returned (.tuple #[x, .bool true]) ∧ IsV w F x (valT p)) ∧ Below w.heap.size w w' := by
  have h2 := (isV_kind h).2.2.2.2.2 hk
  have hl : (valTL ps).length = ps.length := by rw [valTL_map]; simp
  have hj : (valTL ps)[i]? = some (valT p) := by rw [valTL_map, List.getElem?_map, hp]; rfl
  generalize valTL ps = l at h2 hl hj
  generalize keysOf ks ps.length = KS at h2 hi
  cases h2 with
  | obj A c us ks l hu hkk hr he =>
    refine (get_obj key KX hkx hu hkk hr he hF (by omega)).mono ?_
    rintro e w' ⟨hb, ⟨j, x, h1, rfl, hx⟩ | ⟨hno, _⟩⟩
    · obtain rfl := h1.one hi
      exact ⟨⟨x, rfl, hx _ hj⟩, hb⟩
    · exact absurd hi.1 (hno i)
variable {us : List Value}
theorem rGet_no (h : IsT w F us (oursT (.mk k b s ks ps))) (key : List UInt8) (KX : ByteArray) (hkx : KX = ⟨key.toArray⟩) (hF : ∀ q, F q → q < w.heap.size) (hln : ps.length ≤ 140737488000000) (hno : k = 5 → ∀ i : Nat, (keysOf ks ps.length)[i]? ≠ some key) : Calls Tryd.prog 23 #[.agg us.toArray, .string KX] w fun e w' => (∃ xs, Row5 xs ∧ e = .returned (.tuple #[.agg xs.toArray, .bool false])) ∧ Below w.heap.size w w' := by
  have hl : (oursTL ps).length = ps.length := by rw [oursTL_map]; simp
  have hkl := keysOf_len ks ps.length
  rw [oursT] at h
  generalize oursTL ps = l at h hl
  generalize keysOf ks ps.length = KS at h hno hkl
  cases h with
  | mk k b s Ak ck ks Ap cp uss ps hu hk hp he =>
    refine (rget_any key KX hkx hu (by omega) hk hp he hF (by omega)).mono ?_
    rintro e w' ⟨hb, xs, bb, rfl, hrow, ⟨i, h1, h2, _⟩ | ⟨_, rfl⟩⟩
    · exact absurd h2.1 (hno (of_decide_eq_true h1) i)
    · exact ⟨⟨xs, hrow, rfl⟩, hb⟩
theorem rGet_yes (h : IsT w F us (oursT (.mk k b s ks ps))) (key : List UInt8) (KX : ByteArray) (hkx : KX = ⟨key.toArray⟩) (hF : ∀ q, F q → q < w.heap.size) (hln : ps.length ≤ 140737488000000) (hk5 : k = 5) {i : Nat} (hi : At1 key (keysOf ks ps.length) i) {p : TR} (hp : ps[i]? = some p) : Calls Tryd.prog 23 #[.agg us.toArray, .string KX] w fun e w' => (∃ xs, Row5 xs ∧ e = .returned (.tuple #[.agg xs.toArray, .bool true]) ∧ IsT w F xs (oursT p)) ∧ Below w.heap.size w w' := by
  have hl : (oursTL ps).length = ps.length := by rw [oursTL_map]; simp
  have hj : (oursTL ps)[i]? = some (oursT p) := by rw [oursTL_map, List.getElem?_map, hp]; rfl
  have hkl := keysOf_len ks ps.length
  rw [oursT] at h
  generalize oursTL ps = l at h hl hj
  generalize keysOf ks ps.length = KS at h hi hkl
  cases h with
  | mk k b s Ak ck ks Ap cp uss ps hu hk hp he =>
    refine (rget_any key KX hkx hu (by omega) hk hp he hF (by omega)).mono ?_
    rintro e w' ⟨hb, xs, bb, rfl, hrow, ⟨j, h1, h2, rfl, h3⟩ | ⟨h1, _⟩⟩
    · obtain rfl := h2.one hi
      exact ⟨⟨xs, hrow, rfl, h3 _ hj⟩, hb⟩
    · exact absurd hi.1 (h1 (decide_eq_true hk5) i)
end
end Go.Proofs.YtkbopeoaoakfnaaDoor
