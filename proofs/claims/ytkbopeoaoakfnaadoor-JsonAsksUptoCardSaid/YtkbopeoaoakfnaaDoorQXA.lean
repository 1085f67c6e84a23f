/- The texts RW1 RW2 of this work, merged by wip/merge.py. No conditions. -/
import Derived.Test.YtkbopeoaoakfnaaDoorQWA
import Derived.Test.YtkbopeoaoakfnaaDoorQS
import Derived.Lib.AtoiErrMem
import Derived.Test.YtkbopeoaoakfnaaDoorQRI
import Derived.Lib.ItoaMem
namespace Go.Proofs.YtkbopeoaoakfnaaDoor
open Go.RowKit
abbrev Pow10 (w : World) : Prop := Lib.TabIs Tryd.prog w "internal/strconv.uint64pow10" .u64 Lib.pow10Tab
theorem tab_below {w w' : World} (h : Pow10 w) (hb : Below w.heap.size w w') : Pow10 w' := by
  unfold Pow10 Lib.TabIs World.var? at h ⊢
  cases hgn : Tryd.prog.globalNamed "internal/strconv.uint64pow10" with
  | none => rw [hgn] at h; cases h
  | some g =>
    rw [hgn] at h
    simp only [Option.bind_some] at h ⊢
    have hlt : g < w.heap.size := by
      rcases Nat.lt_or_ge g w.heap.size with h' | h'
      · exact h'
      · rw [Array.getElem?_eq_none h'] at h; cases h
    rw [hb.block g hlt]
    exact h
theorem below_sgrow (w : World) (k : Nat) (os : Array Obj) : Below w.heap.size w (Sort.grow (w.drewN k) os) := by
  refine ⟨rfl, rfl, rfl, ?_, fun j hj => ?_⟩
  · rw [Sort.size_grow]; exact Nat.le_add_right _ _
  · show (w.heap ++ os)[j]? = _
    rw [Array.getElem?_append_left hj]
/-- What an error's variable holds. -/
def ErrAt (g : Nat) (w : World) : Prop := ∃ ev, w.cell? ⟨g, 0, none⟩ = some ev ∧ (ev = .nilIface ∨ ∃ te pe, ev = .iface te pe)
theorem ErrAt.below {g : Nat} {w w' : World} (h : ErrAt g w) (hb : Below w.heap.size w w') : ErrAt g w' := by
  obtain ⟨ev, h1, h2⟩ := h
  exact ⟨ev, (hb.cell (show (⟨g, 0, none⟩ : Addr).block < w.heap.size from Lib.lt_of_cell h1)).trans h1, h2⟩
/-- What the numbers need of the world. -/
structure NW (w : World) : Prop where
  tab : Pow10 w
  e0 : ErrAt 0 w
  e1 : ErrAt 1 w
theorem NW.below {w w' : World} (h : NW w) (hb : Below w.heap.size w w') : NW w' := ⟨tab_below h.tab hb, h.e0.below hb, h.e1.below hb⟩
/-- json.Whole of a number's text. -/
def wholeP (s : List UInt8) : Int × Bool :=
  match Lib.parseIntB 64 s with
  | .ok v => if Lib.itoa v = s then (v, true) else (0, false)
  | _ => (0, false)
theorem parseInt_ok (s : List UInt8) (v : Int) (hl : s.length ≤ 281474976710656) (h : Lib.parseIntB 64 s = .ok v) (w : World) : Calls Tryd.prog 47 #[.string ⟨s.toArray⟩, .int .i64 10, .int .i64 64] w fun e w' => e = .returned (.tuple #[.int .i64 v, .nilIface]) ∧ Below w.heap.size w w' := by
  refine (Tryd.strconv_ParseInt_10_at64_ok ⟨s.toArray⟩ (by simp [ByteArray.size]; omega) v (by simpa using h) w).mono ?_
  rintro e w' ⟨rfl, rfl | ⟨t, rfl⟩⟩
  · exact ⟨rfl, Below.refl _ _⟩
  · exact ⟨rfl, Lib.bytesWorld_below _ _ _⟩
/-- An answer of ParseInt's that is a fault. -/
def FaultP (w : World) (e : Ending) (w' : World) : Prop := ∃ n N, e = .returned (.tuple #[.int .i64 n, .iface 133 (.pointer (some ⟨N, 0, none⟩))]) ∧ Below w.heap.size w w'
theorem parseInt_bad (s : List UInt8) (hl : s.length ≤ 281474976710656) (h : ∀ v, Lib.parseIntB 64 s ≠ .ok v) (w : World) (hw : NW w) : Calls Tryd.prog 47 #[.string ⟨s.toArray⟩, .int .i64 10, .int .i64 64] w (FaultP w) := by
  cases hp : Lib.parseIntB 64 s with
  | ok v => exact absurd hp (h v)
  | range =>
    obtain ⟨ev, h1, h2⟩ := hw.e1
    refine (Any.strconv_ParseInt_10_at64_range Tryd.laysC174 ⟨s.toArray⟩ (by simpa [ByteArray.size] using hl) (by simpa using hp) ev w h1 h2).mono ?_
    rintro e w' ⟨N, rfl, _, _, hb⟩
    exact ⟨_, N, rfl, hb⟩
  | _ =>
    obtain ⟨ev, h1, h2⟩ := hw.e0
    refine (Any.strconv_ParseInt_10_at64_syntax Tryd.laysC174 ⟨s.toArray⟩ (by simpa [ByteArray.size] using hl) (by simpa using hp) ev w h1 h2).mono ?_
    rintro e w' ⟨N, rfl, _, _, hb⟩
    exact ⟨_, N, rfl, hb⟩
theorem parseIntB_range {s : List UInt8} {v : Int} (h : Lib.parseIntB 64 s = .ok v) : -9223372036854775808 ≤ v ∧ v ≤ 9223372036854775807 := by
  unfold Lib.parseIntB at h
  split at h
  · cases h
  · simp only at h
    split at h
    · cases h
    · cases h
    · split at h
      · cases h
      · split at h
        · cases h
        · cases h
          split <;> omega
theorem formatInt_any (n : Int) (h : -9223372036854775808 ≤ n ∧ n ≤ 9223372036854775807) (w : World) (hw : NW w) : Calls Tryd.prog 48 #[.int .i64 n, .int .i64 10] w fun e w' => e = .returned (.string ⟨(Lib.itoa n).toArray⟩) ∧ Below w.heap.size w w' := by
  refine (Tryd.strconv_FormatInt_10 n h.1 h.2 w hw.tab).mono ?_
  rintro e w' ⟨rfl, k, os, rfl⟩
  exact ⟨rfl, below_sgrow w k os⟩
set_option maxRecDepth 100000 in
set_option maxHeartbeats 800000 in
/-- json.Whole, by what the assertion answers. -/
theorem whole_any (v : Value) (s : List UInt8) (b : Bool) (hta : ∀ w, (Instr.typeAssert v 30 61 true).run Tryd.prog w = .ok (.tuple #[.string ⟨s.toArray⟩, .bool b]) w) (hl : s.length ≤ 281474976710656) (w : World) (hw : NW w) :
    Calls Tryd.prog 26 #[v] w fun e w' => e = .returned (.tuple #[.int .i64 (wholeP s).1, .bool (wholeP s).2]) ∧ Below w.heap.size w w' := by
  obtain ⟨XB, hXB⟩ : ∃ XB : ByteArray, XB = ⟨s.toArray⟩ := ⟨_, rfl⟩
  rw [← hXB] at hta
  by_cases hok : ∃ n, Lib.parseIntB 64 s = .ok n
  · obtain ⟨n, hn⟩ := hok
    have HP := Lib.hid (parseInt_ok s n hl hn w)
    rw [← hXB] at HP
    have HR := Lib.hid (parseIntB_range hn)
    obtain ⟨YB, hYB⟩ : ∃ YB : ByteArray, YB = ⟨(Lib.itoa n).toArray⟩ := ⟨_, rfl⟩
    have HF : Hid (∀ w, NW w → Calls Tryd.prog 48 #[.int .i64 n, .int .i64 10] w fun e w' => e = .returned (.string YB) ∧ Below w.heap.size w w') := by
      intro w hw
      rw [hYB]
      exact formatInt_any n HR.out w hw
    have HW := Lib.hid hw
    by_cases he : Lib.itoa n = s
    · have hwp : wholeP s = (n, true) := by unfold wholeP; rw [hn]; exact if_pos he
      have h1 : (!(YB.toList == XB.toList)) = false := by rw [hYB, hXB, he]; simp
      rw [hwp]
      clear hXB hYB hn hwp he hl hw
      go_enter Tryd.func26, Tryd.ntmps26
      go_wp2_with (first
        | (go_at_call 47; go_must (refine HP.out.mono ?_; rintro e w1 ⟨rfl, hb1⟩; have B1 := Lib.hid hb1; clear hb1))
        | (go_at_call 48; go_must (refine (HF.out _ (HW.out.below B1.out)).mono ?_; rintro e w2 ⟨rfl, hb2⟩; have B2 := Lib.hid hb2; clear hb2)))
      go_ret2
      exact ⟨rfl, B1.out.trans (B2.out.mono B1.out.size)⟩
    · have hwp : wholeP s = (0, false) := by unfold wholeP; rw [hn]; exact if_neg he
      have h1 : (!(YB.toList == XB.toList)) = true := by
        rw [hYB, hXB, Lib.toList_data, Lib.toList_data]
        simpa using he
      rw [hwp]
      clear hXB hYB hn hwp he hl hw
      go_enter Tryd.func26, Tryd.ntmps26
      go_wp2_with (first
        | (go_at_call 47; go_must (refine HP.out.mono ?_; rintro e w1 ⟨rfl, hb1⟩; have B1 := Lib.hid hb1; clear hb1))
        | (go_at_call 48; go_must (refine (HF.out _ (HW.out.below B1.out)).mono ?_; rintro e w2 ⟨rfl, hb2⟩; have B2 := Lib.hid hb2; clear hb2)))
      go_ret2
      exact ⟨rfl, B1.out.trans (B2.out.mono B1.out.size)⟩
  · have hno : ∀ n, Lib.parseIntB 64 s ≠ .ok n := fun n h => hok ⟨n, h⟩
    have hwp : wholeP s = (0, false) := by
      unfold wholeP
      cases hp : Lib.parseIntB 64 s with
      | ok v => exact absurd hp (hno v)
      | range => rfl
      | _ => rfl
    have HP := Lib.hid (parseInt_bad s hl hno w hw)
    rw [← hXB] at HP
    rw [hwp]
    clear hXB hno hok hwp hl hw
    go_enter Tryd.func26, Tryd.ntmps26
    go_wp2_with (go_at_call 47; go_must (refine HP.out.mono ?_; rintro e w1 ⟨n, N, rfl, hb1⟩; have B1 := Lib.hid hb1; clear hb1))
    go_ret2
    exact ⟨rfl, B1.out⟩
end Go.Proofs.YtkbopeoaoakfnaaDoor

namespace Go.Proofs.YtkbopeoaoakfnaaDoor
open Go.RowKit
def valS (a : Nat) (c : UInt8) : Nat := a * 10 + (c.toNat - 48)
def valD (acc : Nat) (d : List UInt8) : Nat := d.foldl valS acc
theorem valD_nil (acc : Nat) : valD acc [] = acc := rfl
theorem valD_cons (acc : Nat) (c : UInt8) (r : List UInt8) : valD acc (c :: r) = valD (acc * 10 + (c.toNat - 48)) r := by unfold valD; rw [List.foldl_cons]; unfold valS; exact Eq.refl _
theorem valD_app (d : List UInt8) (acc : Nat) (c : UInt8) : valD acc (d ++ [c]) = valD acc d * 10 + (c.toNat - 48) := by
  unfold valD
  rw [List.foldl_append]
  rfl
theorem valD_ge : ∀ (d : List UInt8) (acc : Nat), acc ≤ valD acc d
  | [], acc => Nat.le_refl _
  | x :: d, acc => by
    rw [valD_cons]
    have := valD_ge d (acc * 10 + (x.toNat - 48))
    omega
theorem valD_lt : ∀ (d : List UInt8) (acc : Nat), (∀ c ∈ d, digitB c = true) → valD acc d < (acc + 1) * 10 ^ d.length
  | [], acc, _ => by rw [valD_nil]; simp
  | x :: d, acc, h => by
    rw [valD_cons, List.length_cons, Nat.pow_succ]
    have h1 := valD_lt d (acc * 10 + (x.toNat - 48)) (fun c hc => h c (List.mem_cons_of_mem _ hc))
    have h2 : x.toNat ≤ 57 := by have := h x List.mem_cons_self; unfold digitB at this; exact (of_decide_eq_true this).2
    have h3 : (acc * 10 + (x.toNat - 48) + 1) * 10 ^ d.length ≤ ((acc + 1) * 10) * 10 ^ d.length := Nat.mul_le_mul_right _ (by omega)
    have h4 : (acc + 1) * 10 * 10 ^ d.length = (acc + 1) * (10 ^ d.length * 10) := by rw [Nat.mul_assoc, Nat.mul_comm 10]
    omega
theorem digit_n {c : UInt8} (h : digitB c = true) : 48 ≤ c.toNat ∧ c.toNat ≤ 57 := of_decide_eq_true h
theorem digit_back {c : UInt8} (h : digitB c = true) (r : Nat) (hr : r = c.toNat - 48) : UInt8.ofNat (48 + r) = c := by
  have := digit_n h
  rw [hr, show 48 + (c.toNat - 48) = c.toNat by omega]
  simp
/-- Digits without a zero ahead of others. -/
def CanD (d : List UInt8) : Prop := DigL d ∧ (d.head? = some 48 → d.length = 1)
theorem canD_val1 {d : List UInt8} (h : CanD d) (h0 : d.head? ≠ some 48) : 1 ≤ valD 0 d := by
  obtain ⟨c, t, rfl, hc⟩ := h.1.head
  rw [valD_cons]
  have h1 := digit_n hc
  have h2 : c.toNat ≠ 48 := fun e => h0 (by
    have : c = 48 := UInt8.toNat_inj.1 (by rw [e]; rfl)
    rw [this]; rfl)
  have := valD_ge t (0 * 10 + (c.toNat - 48))
  omega
theorem canD_dec : ∀ (n : Nat) (d : List UInt8), d.length = n → CanD d → Lib.decDigits (valD 0 d) = d
  | n, d, hn, h => by
    rcases List.eq_nil_or_concat d with rfl | ⟨d', c, rfl⟩
    · exact absurd rfl h.1.1
    · rw [List.concat_eq_append] at hn h ⊢
      have hc : digitB c = true := h.1.2 c (by simp)
      have hcn := digit_n hc
      rw [valD_app]
      by_cases hd : d' = []
      · subst hd
        rw [valD_nil, Lib.decDigits, dif_pos (by omega)]
        rw [show 48 + (0 * 10 + (c.toNat - 48)) = 48 + (c.toNat - 48) by omega, digit_back hc _ rfl]
        rfl
      · have hh : d'.head? ≠ some 48 := by
          intro he
          have h1 := h.2 (by
            cases d' with
            | nil => exact absurd rfl hd
            | cons a t => simpa using he)
          have : 1 ≤ d'.length := List.length_pos_iff.2 hd
          rw [List.length_append, List.length_singleton] at h1
          omega
        have hcan : CanD d' := ⟨⟨hd, fun x hx => h.1.2 x (by simp [hx])⟩, fun he => absurd he hh⟩
        have h1 := canD_val1 hcan hh
        have ih := canD_dec (n - 1) d' (by simp at hn; omega) hcan
        rw [Lib.decDigits, dif_neg (by omega), show (valD 0 d' * 10 + (c.toNat - 48)) / 10 = valD 0 d' by omega, ih, show (valD 0 d' * 10 + (c.toNat - 48)) % 10 = c.toNat - 48 by omega, digit_back hc _ rfl]
termination_by n => n
decreasing_by simp at hn; omega
theorem ofNat_digit (r : Nat) (h : r < 10) : digitB (UInt8.ofNat (48 + r)) = true ∧ (UInt8.ofNat (48 + r)).toNat = 48 + r := by
  have h1 : (UInt8.ofNat (48 + r)).toNat = 48 + r := by rw [UInt8.toNat_ofNat']; omega
  exact ⟨by unfold digitB; rw [h1]; exact decide_eq_true (by omega), h1⟩
theorem dec_canD (u : Nat) : CanD (Lib.decDigits u) ∧ valD 0 (Lib.decDigits u) = u ∧ (1 ≤ u → (Lib.decDigits u).head? ≠ some 48) := by
  induction u using Nat.strongRecOn with
  | _ u ih =>
    by_cases h : u < 10
    · have := ofNat_digit u h
      rw [Lib.decDigits, dif_pos h]
      refine ⟨⟨⟨by simp, fun c hc => ?_⟩, fun _ => rfl⟩, ?_, fun h1 e => ?_⟩
      · rw [List.mem_singleton.1 hc]; exact this.1
      · rw [valD_cons, valD_nil, this.2]; omega
      · have e2 : UInt8.ofNat (48 + u) = 48 := by simpa using e
        rw [e2] at this
        have h3 := this.2
        have h4 : (48 : UInt8).toNat = 48 := rfl
        omega
    · obtain ⟨h1, h2, h3⟩ := ih (u / 10) (by omega)
      have hd := ofNat_digit (u % 10) (by omega)
      rw [Lib.decDigits, dif_neg h]
      obtain ⟨c, t, he, hc⟩ := h1.1.head
      have hh := h3 (by omega)
      refine ⟨⟨⟨by simp, fun c hc => ?_⟩, fun e => ?_⟩, ?_, fun _ e => ?_⟩
      · rcases List.mem_append.1 hc with h | h
        · exact h1.1.2 c h
        · rw [List.mem_singleton.1 h]; exact hd.1
      · rw [he] at e hh
        exact absurd (by simpa using e) hh
      · rw [valD_app, h2, hd.2]; omega
      · rw [he] at e hh
        exact absurd (by simpa using e) hh
theorem parseUintM_dig (M : Nat) (hM : M < 18446744073709551616) : ∀ (d : List UInt8) (acc : Nat), (∀ c ∈ d, digitB c = true) → valD acc d ≤ M → Lib.parseUintM M acc d = .ok (valD acc d)
  | [], acc, _, _ => by rw [Lib.parseUintM, valD_nil]
  | c :: d, acc, h, hv => by
    rw [valD_cons] at hv ⊢
    have hc := digit_n (h c List.mem_cons_self)
    have hg := valD_ge d (acc * 10 + (c.toNat - 48))
    rw [Lib.parseUintM, if_pos hc, if_neg (by omega), if_neg (by omega)]
    exact parseUintM_dig M hM d _ (fun x hx => h x (List.mem_cons_of_mem _ hx)) hv
theorem itoa_cases (v : Int) : (∃ u : Nat, v = u ∧ Lib.itoa v = Lib.decDigits u) ∨ ∃ u : Nat, 1 ≤ u ∧ v = -(u : Int) ∧ Lib.itoa v = 45 :: Lib.decDigits u := by
  by_cases h : v < 0
  · exact .inr ⟨v.natAbs, by omega, by omega, by unfold Lib.itoa; rw [if_pos h]⟩
  · exact .inl ⟨v.toNat, by omega, by unfold Lib.itoa; rw [if_neg h]⟩
theorem parse_itoa (v : Int) (h : -9223372036854775808 ≤ v ∧ v ≤ 9223372036854775807) : Lib.parseIntB 64 (Lib.itoa v) = .ok v := by
  have hu : ∀ u : Nat, u ≤ 9223372036854775808 → Lib.parseUintB 64 (Lib.decDigits u) = .ok u := by
    intro u hu
    obtain ⟨h1, h2, _⟩ := dec_canD u
    unfold Lib.parseUintB
    rw [if_neg h1.1.1, parseUintM_dig _ (by decide) _ _ h1.1.2 (by rw [h2]; omega), h2]
  rcases itoa_cases v with ⟨u, rfl, e⟩ | ⟨u, hu1, rfl, e⟩
  · rw [e]
    obtain ⟨h1, h2, _⟩ := dec_canD u
    obtain ⟨c, t, he, hc⟩ := h1.1.head
    have hcn := digit_n hc
    have hP := hu u (by omega)
    rw [he] at hP ⊢
    unfold Lib.parseIntB
    simp only
    rw [if_neg (by omega), hP]
    simp only
    rw [if_neg (by omega), if_neg (by omega), if_neg (by omega)]
  · rw [e]
    unfold Lib.parseIntB
    simp only
    rw [if_pos (.inr rfl), hu u (by omega)]
    simp only
    rw [if_neg (by simp), if_neg (by omega)]
    rfl
/-- The reference's reading: the sign, then the digits. -/
def rwP (neg : Bool) (d : List UInt8) : Int × Bool :=
  if d = [] ∨ 19 < d.length ∨ (d.head? = some 48 ∧ (1 < d.length ∨ neg = true)) then (0, false)
  else if d.all digitB = false then (0, false)
  else if neg = true ∧ valD 0 d = 9223372036854775808 then (-9223372036854775808, true)
  else if 9223372036854775807 < valD 0 d then (0, false)
  else if neg = true then (-(valD 0 d : Int), true) else ((valD 0 d : Int), true)
def rwholeP (s : List UInt8) : Int × Bool := if s.head? = some 45 then rwP true s.tail else rwP false s
theorem decDigits_len : ∀ (k n : Nat), n < 10 ^ (k + 1) → (Lib.decDigits n).length ≤ k + 1
  | 0, n, h => by rw [Lib.decDigits, dif_pos (by omega)]; simp
  | k + 1, n, h => by
    rw [Lib.decDigits]
    split
    · simp
    · have h2 : n / 10 < 10 ^ (k + 1) := by rw [Nat.pow_succ] at h; omega
      have := decDigits_len k (n / 10) h2
      simp
      omega
theorem rwP_dec (neg : Bool) (u : Nat) (h : u ≤ 9223372036854775808) (hn : neg = true → 1 ≤ u) (hp : neg = false → u ≤ 9223372036854775807) : rwP neg (Lib.decDigits u) = (if neg = true then -(u : Int) else u, true) := by
  obtain ⟨h1, h2, h3⟩ := dec_canD u
  have hl := decDigits_len 18 u (by omega)
  unfold rwP
  rw [h2, if_neg ?_, if_neg ?_]
  · cases neg with
    | true =>
      by_cases he : u = 9223372036854775808
      · rw [if_pos ⟨rfl, he⟩, he]; rfl
      · rw [if_neg (fun x => he x.2), if_neg (by omega)]; rfl
    | false =>
      have := hp rfl
      rw [if_neg (by simp), if_neg (by omega)]; rfl
  · rw [List.all_eq_true.2 h1.1.2]; simp
  · rintro (e | e | ⟨e, e2⟩)
    · exact h1.1.1 e
    · omega
    · rcases e2 with e2 | e2
      · have := h1.2 e; omega
      · exact h3 (hn e2) e
theorem rwhole_itoa (v : Int) (h : -9223372036854775808 ≤ v ∧ v ≤ 9223372036854775807) : rwholeP (Lib.itoa v) = (v, true) := by
  rcases itoa_cases v with ⟨u, rfl, e⟩ | ⟨u, hu1, rfl, e⟩
  · rw [e]
    obtain ⟨h1, _, _⟩ := dec_canD u
    obtain ⟨c, t, he, hc⟩ := h1.1.head
    have hcn := digit_n hc
    unfold rwholeP
    rw [if_neg (by rw [he]; intro e2; simp at e2; rw [e2] at hcn; exact absurd hcn.1 (by decide)), rwP_dec false u (by omega) (by simp) (fun _ => by omega)]
    rfl
  · rw [e]
    show rwP true (Lib.decDigits u) = _
    rw [rwP_dec true u (by omega) (fun _ => hu1) (by simp)]
    rfl
theorem rwP_cases (neg : Bool) (d : List UInt8) : rwP neg d = (0, false) ∨ (CanD d ∧ (neg = true → 1 ≤ valD 0 d) ∧ rwP neg d = (if neg = true then -(valD 0 d : Int) else valD 0 d, true) ∧ valD 0 d ≤ 9223372036854775808 ∧ (neg = false → valD 0 d ≤ 9223372036854775807)) := by
  unfold rwP
  by_cases h1 : d = [] ∨ 19 < d.length ∨ (d.head? = some 48 ∧ (1 < d.length ∨ neg = true))
  · rw [if_pos h1]; exact .inl rfl
  rw [if_neg h1]
  by_cases h2 : d.all digitB = false
  · rw [if_pos h2]; exact .inl rfl
  rw [if_neg h2]
  have hall : ∀ c ∈ d, digitB c = true := List.all_eq_true.1 (by simpa using h2)
  have hne : d ≠ [] := fun e => h1 (.inl e)
  have hpos : 1 ≤ d.length := List.length_pos_iff.2 hne
  have hcan : CanD d := ⟨⟨hne, hall⟩, fun e => by
    rcases Nat.lt_or_ge 1 d.length with h | h
    · exact absurd (.inr (.inr ⟨e, .inl h⟩)) h1
    · omega⟩
  have hn : neg = true → 1 ≤ valD 0 d := fun e => canD_val1 hcan fun e2 => h1 (.inr (.inr ⟨e2, .inr e⟩))
  by_cases h3 : neg = true ∧ valD 0 d = 9223372036854775808
  · rw [if_pos h3]
    refine .inr ⟨hcan, hn, ?_, by omega, fun e => by rw [h3.1] at e; cases e⟩
    rw [if_pos h3.1, h3.2]; rfl
  rw [if_neg h3]
  by_cases h4 : 9223372036854775807 < valD 0 d
  · rw [if_pos h4]; exact .inl rfl
  rw [if_neg h4]
  refine .inr ⟨hcan, hn, ?_, by omega, fun _ => by omega⟩
  split <;> rfl
theorem rwhole_eq (s : List UInt8) : rwholeP s = wholeP s := by
  by_cases hv : ∃ v : Int, (-9223372036854775808 ≤ v ∧ v ≤ 9223372036854775807) ∧ Lib.itoa v = s
  · obtain ⟨v, hr, rfl⟩ := hv
    rw [rwhole_itoa v hr]
    unfold wholeP
    rw [parse_itoa v hr]
    exact (if_pos rfl).symm
  · have hno : ∀ v : Int, (-9223372036854775808 ≤ v ∧ v ≤ 9223372036854775807) → Lib.itoa v ≠ s := fun v h e => hv ⟨v, h, e⟩
    have h2 : wholeP s = (0, false) := by
      unfold wholeP
      cases hp : Lib.parseIntB 64 s with
      | ok v => exact if_neg (hno v (parseIntB_range hp))
      | range => rfl
      | _ => rfl
    rw [h2]
    unfold rwholeP
    by_cases h45 : s.head? = some 45
    · rw [if_pos h45]
      rcases rwP_cases true s.tail with h | ⟨hc, hn, h, hb, _⟩
      · exact h
      · refine absurd ?_ (hno (-(valD 0 s.tail : Int)) (by omega))
        rw [Lib.itoa_neg _ (hn rfl), canD_dec _ _ rfl hc]
        cases s with
        | nil => cases h45
        | cons a t => simp at h45; rw [h45]; rfl
    · rw [if_neg h45]
      rcases rwP_cases false s with h | ⟨hc, hn, h, hb, hb2⟩
      · exact h
      · have := hb2 rfl
        refine absurd ?_ (hno (valD 0 s : Int) (by omega))
        rw [Lib.itoa_nonneg, canD_dec _ _ rfl hc]
/-- A whole number's text is a number's text. -/
theorem whole_num {s : List UInt8} (h : (wholeP s).2 = true) : NumL s := by
  have : ∃ v : Int, Lib.itoa v = s := by
    unfold wholeP at h
    cases hp : Lib.parseIntB 64 s with
    | ok v =>
      rw [hp] at h
      by_cases he : Lib.itoa v = s
      · exact ⟨v, he⟩
      · simp [he] at h
    | range => rw [hp] at h; cases h
    | _ => rw [hp] at h; cases h
  obtain ⟨v, rfl⟩ := this
  have hI : ∀ u : Nat, Lib.decDigits u = [48] ∨ (DigL (Lib.decDigits u) ∧ (Lib.decDigits u).head? ≠ some 48) := fun u => by
    obtain ⟨h1, h2, h3⟩ := dec_canD u
    by_cases h48 : (Lib.decDigits u).head? = some 48
    · have hl := h1.2 h48
      left
      match hd : Lib.decDigits u, hl, h48 with
      | [c], _, h48 => simp at h48; rw [h48]
    · exact .inr ⟨h1.1, h48⟩
  rcases itoa_cases v with ⟨u, rfl, e⟩ | ⟨u, hu1, rfl, e⟩
  · exact ⟨Lib.decDigits u, [], [], by rw [e]; simp, ⟨[], _, rfl, .inl rfl, hI u⟩, .inl rfl, .inl rfl⟩
  · exact ⟨45 :: Lib.decDigits u, [], [], by rw [e]; simp, ⟨[45], _, rfl, .inr rfl, hI u⟩, .inl rfl, .inl rfl⟩
end Go.Proofs.YtkbopeoaoakfnaaDoor
