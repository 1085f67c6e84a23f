/- The reference's DecodeRoot. No conditions. -/
import Derived.Test.YtbpgbihcihnieaaV6b
import Derived.Test.YtbpgbihcihnieaaV6c
import Derived.Test.YtbpgbihcihnieaaV6d
import Derived.Test.YtbpgbihcihnieaaV6e
import Derived.Test.YtbpgbihcihnieaaV6f
namespace Go.Proofs.Ytbpgbihcihnieaa
open Go.RowKit
theorem two_of {ls : List (List UInt8)} (h : ls.length = 2) : ∃ x y, ls = [x, y] := by
  match ls, h with
  | [x, y], _ => exact ⟨x, y, rfl⟩
theorem six_of {ls : List (List UInt8)} (h : ls.length = 6) : ∃ a b c d e f, ls = [a, b, c, d, e, f] := by
  match ls, h with
  | [a, b, c, d, e, f], _ => exact ⟨a, b, c, d, e, f, rfl⟩
theorem rootD_a {b : List UInt8} (h : openV b signedW 2 = none) : rootD b = none := by unfold rootD; rw [h]; rfl
theorem rootD_b {b x y : List UInt8} (h : openV b signedW 2 = some [x, y]) (hy : ¬ y.length = 64) : rootD b = none := by
  unfold rootD rootO
  rw [h]
  simp only
  cases rootI (openV x rootW 6) with
  | none => rfl
  | some F => simp only; rw [if_neg hy]
theorem rootD_c {b x y : List UInt8} (h : openV b signedW 2 = some [x, y]) (h2 : openV x rootW 6 = none) : rootD b = none := by
  unfold rootD rootO
  rw [h]
  simp only
  rw [h2]
  rfl
theorem rootD_d {b x y f1 f2 f3 f4 f5 f6 : List UInt8} (h : openV b signedW 2 = some [x, y]) (hy : y.length = 64) (h2 : openV x rootW 6 = some [f1, f2, f3, f4, f5, f6]) (hi : innerOK f1 f2 f3 f4 f5 f6 = true) : rootD b = some ⟨numV f1, numV f2, numV f3, f4, f5, f6, y⟩ := by
  unfold rootD rootO
  rw [h]
  simp only
  rw [h2]
  unfold rootI
  simp only
  rw [if_pos hi]
  simp only
  rw [if_pos hy]
theorem rootD_e {b x y f1 f2 f3 f4 f5 f6 : List UInt8} (h : openV b signedW 2 = some [x, y]) (h2 : openV x rootW 6 = some [f1, f2, f3, f4, f5, f6]) (hi : innerOK f1 f2 f3 f4 f5 f6 = false) : rootD b = none := by
  unfold rootD rootO
  rw [h]
  simp only
  rw [h2]
  unfold rootI
  simp only
  rw [if_neg (by rw [hi]; decide)]
theorem rDecodeRoot_any (A : Option Addr) (c : Nat) (b : List UInt8) (w : World) (hr : Reads w w.heap.size 1 A b.length (bvs b)) (hc : b.length ≤ c) (hm : b.length ≤ 140737488355328) : Calls Try.prog 28 #[.slice A b.length c] w (RootPost b w) := by
  cases h1 : openV b signedW 2 with
  | none => exact rDR_a A c b w hr hc hm (rootD_a h1) h1
  | some ls =>
    obtain ⟨x, y, rfl⟩ := two_of (openV_length h1)
    by_cases hy : y.length = 64
    · cases h2 : openV x rootW 6 with
      | none => exact rDR_c A c b w hr hc hm x y (rootD_c h1 h2) h1 hy h2
      | some ms =>
        obtain ⟨f1, f2, f3, f4, f5, f6, rfl⟩ := six_of (openV_length h2)
        by_cases l1 : f1.length = 8
        · by_cases l2 : f2.length = 8
          · by_cases l3 : f3.length = 8
            · by_cases l4 : f4.length = 32
              · by_cases l5 : f5.length = 32
                · by_cases l6 : f6.length = 32
                  · exact rDR_d A c b w hr hc hm x y f1 f2 f3 f4 f5 f6 (rootD_d h1 hy h2 (by simp [innerOK, l1, l2, l3, l4, l5, l6])) h1 hy h2 l1 l2 l3 l4 l5 l6
                  · exact rDR_e5 A c b w hr hc hm x y f1 f2 f3 f4 f5 f6 (rootD_e h1 h2 (by simp [innerOK, l6])) h1 hy h2 l1 l2 l3 l4 l5 l6
                · exact rDR_e4 A c b w hr hc hm x y f1 f2 f3 f4 f5 f6 (rootD_e h1 h2 (by simp [innerOK, l5])) h1 hy h2 l1 l2 l3 l4 l5
              · exact rDR_e3 A c b w hr hc hm x y f1 f2 f3 f4 f5 f6 (rootD_e h1 h2 (by simp [innerOK, l4])) h1 hy h2 l1 l2 l3 l4
            · exact rDR_e2 A c b w hr hc hm x y f1 f2 f3 f4 f5 f6 (rootD_e h1 h2 (by simp [innerOK, l3])) h1 hy h2 l1 l2 l3
          · exact rDR_e1 A c b w hr hc hm x y f1 f2 f3 f4 f5 f6 (rootD_e h1 h2 (by simp [innerOK, l2])) h1 hy h2 l1 l2
        · exact rDR_e0 A c b w hr hc hm x y f1 f2 f3 f4 f5 f6 (rootD_e h1 h2 (by simp [innerOK, l1])) h1 hy h2 l1
    · exact rDR_b A c b w hr hc hm x y (rootD_b h1 hy) h1 hy
end Go.Proofs.Ytbpgbihcihnieaa
