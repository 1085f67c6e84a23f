/- The arithmetic of shift. No conditions. -/
import Derived.Test.YtagjeideohplpaaDoorS3
namespace Go.Proofs.YtagjeideohplpaaDoor
open Go.RowKit
theorem mod_of {T r q : Nat} (h : T = r + ordN * q) (hr : r < ordN) : T % ordN = r := by
  rw [h, Nat.add_mul_mod_self_left, Nat.mod_eq_of_lt hr]
theorem shift_sum {q0 q1 h00 l00 h01 l01 h10 l10 h11 l11 : Nat} {d1 d2 d3 : W4} {c1 c2 c3 : Nat}
    (v00 : l00 + 18446744073709551616 * h00 = q0 * 6346243789798364141) (v01 : l01 + 18446744073709551616 * h01 = q0 * 1503914060200516822) (v10 : l10 + 18446744073709551616 * h10 = q1 * 6346243789798364141) (v11 : l11 + 18446744073709551616 * h11 = q1 * 1503914060200516822)
    (hq0 : q0 < 18446744073709551616) (hq1 : q1 ≤ 1) (k1 : d1.ok) (k2 : d2.ok) (k3 : d3.ok)
    (e1 : (W4.mk l00 h00 h01 0).val + (W4.mk 0 l01 0 0).val = d1.val + c1 * 115792089237316195423570985008687907853269984665640564039457584007913129639936)
    (e2 : d1.val + (W4.mk 0 l10 h10 0).val = d2.val + c2 * 115792089237316195423570985008687907853269984665640564039457584007913129639936)
    (e3 : d2.val + (W4.mk 0 0 l11 0).val = d3.val + c3 * 115792089237316195423570985008687907853269984665640564039457584007913129639936) :
    d3.val = q0 * 6346243789798364141 + 18446744073709551616 * (q0 * 1503914060200516822) + 18446744073709551616 * (q1 * 6346243789798364141) + 340282366920938463463374607431768211456 * (q1 * 1503914060200516822) := by
  have b1 := d1.val_lt k1
  have b2 := d2.val_lt k2
  have b3 := d3.val_lt k3
  have z11 : h11 = 0 := by omega
  simp only [W4.val] at e1
  have f1 : c1 = 0 ∧ d1.val = q0 * 6346243789798364141 + 18446744073709551616 * (q0 * 1503914060200516822) := by
    rw [show d1.a + 18446744073709551616 * d1.b + 340282366920938463463374607431768211456 * d1.c + 6277101735386680763835789423207666416102355444464034512896 * d1.d = d1.val from rfl] at e1
    omega
  clear e1
  have f2 : c2 = 0 ∧ d2.val = d1.val + 18446744073709551616 * (q1 * 6346243789798364141) := by
    have : (W4.mk 0 l10 h10 0).val = 18446744073709551616 * l10 + 340282366920938463463374607431768211456 * h10 := by simp [W4.val]
    rw [this] at e2
    obtain ⟨_, f1⟩ := f1
    omega
  have f3 : c3 = 0 ∧ d3.val = d2.val + 340282366920938463463374607431768211456 * (q1 * 1503914060200516822) := by
    have : (W4.mk 0 0 l11 0).val = 340282366920938463463374607431768211456 * l11 := by simp [W4.val]
    rw [this] at e3
    obtain ⟨_, f1⟩ := f1
    obtain ⟨_, f2⟩ := f2
    omega
  omega
set_option maxRecDepth 100000 in
set_option maxHeartbeats 1000000 in
theorem shift_math {x : W4} (hx : x.ok) (hlt : x.val < ordN) {v : Nat} (hv : v < 18446744073709551616) {P br : Nat} {r : W4} (hr : r.ok)
    (hP : P = (x.c / 1152921504606846976 + x.d % 1152921504606846976 * 16) * 6346243789798364141 + 18446744073709551616 * ((x.c / 1152921504606846976 + x.d % 1152921504606846976 * 16) * 1503914060200516822) + 18446744073709551616 * (x.d / 1152921504606846976 * 6346243789798364141) + 340282366920938463463374607431768211456 * (x.d / 1152921504606846976 * 1503914060200516822))
    (hbr : br ≤ 1) (h : (W4.mk v x.a x.b (x.c % 1152921504606846976)).val + br * 115792089237316195423570985008687907853269984665640564039457584007913129639936 = r.val + P) :
    (br = 0 → lessN r.val = (x.val * 18446744073709551616 + v) % ordN) ∧ (br ≠ 0 → ∀ (d : W4) (c : Nat), d.ok → c ≤ 1 → r.val + ordW.val = d.val + c * 115792089237316195423570985008687907853269984665640564039457584007913129639936 → lessN d.val = (x.val * 18446744073709551616 + v) % ordN) := by
  have br1 := r.val_lt hr
  obtain ⟨low, hlow⟩ : ∃ low, (W4.mk v x.a x.b (x.c % 1152921504606846976)).val = low := ⟨_, rfl⟩
  rw [hlow] at h
  have hl : low = v + 18446744073709551616 * x.a + 340282366920938463463374607431768211456 * x.b + 6277101735386680763835789423207666416102355444464034512896 * (x.c % 1152921504606846976) := by rw [← hlow]; rfl
  clear hlow
  unfold W4.ok at hx
  obtain ⟨q, hq⟩ : ∃ q, q = (x.c / 1152921504606846976 + x.d % 1152921504606846976 * 16) + 18446744073709551616 * (x.d / 1152921504606846976) := ⟨_, rfl⟩
  have hd60 : x.d ≤ 1152921504606846976 := by unfold W4.val ordN at hlt; omega
  have hT : x.val * 18446744073709551616 + v = low + 7237005577332262213973186563042994240829374041602535252466099000494570602496 * q := by unfold W4.val; omega
  have hPq : P = 27742317777372353535851937790883648493 * q := by
    rw [hP, hq]
    generalize x.c / 1152921504606846976 + x.d % 1152921504606846976 * 16 = a
    generalize x.d / 1152921504606846976 = b
    rw [Nat.mul_add, show 27742317777372353535851937790883648493 = 6346243789798364141 + 18446744073709551616 * 1503914060200516822 from rfl, Nat.add_mul, Nat.add_mul]
    simp only [Nat.mul_assoc, Nat.mul_comm a, Nat.mul_comm b]
    omega
  have hOq : ∀ n, ordN * n = 7237005577332262213973186563042994240829374041602535252466099000494570602496 * n + 27742317777372353535851937790883648493 * n := fun n => by rw [show ordN = 7237005577332262213973186563042994240829374041602535252466099000494570602496 + 27742317777372353535851937790883648493 from rfl, Nat.add_mul]
  have hqb : q ≤ 36893488147419103232 := by omega
  have hlb : low < 7237005577332262213973186563042994240829374041602535252466099000494570602496 := by omega
  have hcqb : 27742317777372353535851937790883648493 * q ≤ 27742317777372353535851937790883648493 * 36893488147419103232 := Nat.mul_le_mul_left _ hqb
  have hOq := hOq q
  obtain ⟨cq, hcq⟩ : ∃ cq, 27742317777372353535851937790883648493 * q = cq := ⟨_, rfl⟩
  obtain ⟨kq, hkq⟩ : ∃ kq, 7237005577332262213973186563042994240829374041602535252466099000494570602496 * q = kq := ⟨_, rfl⟩
  rw [hcq] at hPq hcqb hOq
  rw [hkq] at hT hOq
  rw [hT]
  clear hP hl hq hd60 hx hv hT hlt hkq
  have hK : 7237005577332262213973186563042994240829374041602535252466099000494570602496 < ordN := by decide
  have hCb : 27742317777372353535851937790883648493 * 36893488147419103232 < ordN := by decide
  have hO4 : ordN < 115792089237316195423570985008687907853269984665640564039457584007913129639936 := by decide
  have hcb : cq < ordN := Nat.lt_of_le_of_lt hcqb hCb
  have hlb2 : low < ordN := Nat.lt_trans hlb hK
  clear hK hCb hcqb hlb
  generalize hOn : ordN = O at *
  have HOn : ordN = O ∨ False := .inl hOn
  clear hOn
  refine ⟨fun h0 => ?_, fun h0 d c hd hc hs => ?_⟩
  · subst h0
    rw [hPq, Nat.zero_mul, Nat.add_zero] at h
    have h2 : low + kq = r.val + O * q := by rw [hOq, h, Nat.add_assoc, Nat.add_comm cq kq]
    have h3 : r.val < O := Nat.lt_of_le_of_lt (by rw [h]; exact Nat.le_add_right _ _) hlb2
    have hOn : ordN = O := HOn.elim id False.elim
    clear HOn
    subst hOn
    rw [mod_of h2 h3]
    unfold lessN
    rw [if_neg (Nat.not_le_of_lt h3)]
  · obtain rfl : br = 1 := by omega
    have hd1 := d.val_lt hd
    have hOn : ordN = O := HOn.elim id False.elim
    rw [ordW_val, hOn] at hs
    clear hOn
    have hc1 : c = 1 := by clear HOn; omega
    subst hc1
    have hq1 : 1 ≤ q := by
      rcases Nat.eq_zero_or_pos q with h0 | h0
      · subst h0
        simp only [Nat.mul_zero] at hcq
        clear HOn
        omega
      · exact h0
    have ht : O * (q - 1) + O = kq + cq := by rw [← hOq, ← Nat.mul_succ]; congr 1; clear HOn; omega
    have h2 : low + kq = d.val + O * (q - 1) := by clear HOn; omega
    have h3 : d.val < O := by clear HOn; omega
    have hOn : ordN = O := HOn.elim id False.elim
    clear HOn
    subst hOn
    rw [mod_of h2 h3]
    unfold lessN
    rw [if_neg (Nat.not_le_of_lt h3)]
end Go.Proofs.YtagjeideohplpaaDoor
