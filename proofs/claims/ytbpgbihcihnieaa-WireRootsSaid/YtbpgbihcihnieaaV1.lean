/- Roots in plain Lean; items of a list that is built. No conditions. -/
import Derived.Test.YtbpgbihcihnieaaW8
import Derived.Test.YtbpgbihcihnieaaLNums
namespace Go.Proofs.Ytbpgbihcihnieaa
open Go.RowKit
/-- A root. -/
structure RootV where
  e : Nat
  k : Nat
  g : Nat
  p : List UInt8
  h : List UInt8
  l : List UInt8
  s : List UInt8
structure RootV.ok (r : RootV) : Prop where
  e : r.e < 18446744073709551616
  k : r.k < 18446744073709551616
  g : r.g < 18446744073709551616
  p : r.p.length = 32
  h : r.h.length = 32
  l : r.l.length = 32
  s : r.s.length = 64
/-- Its cells: three numbers and four rows of bytes. -/
def RootV.vs (r : RootV) : List Value := .int .u64 r.e :: .int .u64 r.k :: .int .u64 r.g :: (bvs r.p ++ (bvs r.h ++ (bvs r.l ++ bvs r.s)))
def RootV.cs (r : RootV) : Array Value := r.vs.toArray
def rootW : List UInt8 := [114, 111, 111, 116]
def signedW : List UInt8 := [115, 105, 103, 110, 101, 100]
def rootL (r : RootV) : List (List UInt8) := [rootW, be8 r.e, be8 r.k, be8 r.g, r.p, r.h, r.l]
def rootB (r : RootV) : List UInt8 := encB (rootL r)
def signL (r : RootV) : List (List UInt8) := [signedW, rootB r, r.s]
def signB (r : RootV) : List UInt8 := encB (signL r)
theorem rootL_ok {r : RootV} (h : r.ok) : encOK (rootL r) = true := encOK_of (by simp [rootL]) (by simp [rootL, bulk, rootW, be8_length, h.p, h.h, h.l])
theorem rootB_length {r : RootV} (h : r.ok) : (rootB r).length = 156 := by
  rw [rootB, encB_ok (rootL_ok h), List.length_append, be4_length, members_length]
  simp [rootL, bulk, rootW, be8_length, h.p, h.h, h.l]
theorem signL_ok {r : RootV} (h : r.ok) : encOK (signL r) = true := encOK_of (by simp [signL]) (by simp [signL, bulk, signedW, rootB_length h, h.s])
/-- open: the fields of a thing of a word. -/
def openV (l word : List UInt8) (n : Nat) : Option (List (List UInt8)) := if decE l = 0 ∧ (decV l).length = n + 1 ∧ (decV l).getD 0 [] = word then some (decV l).tail else none
theorem openV_length {l word : List UInt8} {n : Nat} {ls : List (List UInt8)} (h : openV l word n = some ls) : ls.length = n := by
  unfold openV at h
  split at h
  · rename_i h1
    cases h
    simp [h1.2.1]
  · cases h
theorem openV_enc {word : List UInt8} {ls : List (List UInt8)} {n : Nat} (hn : ls.length = n) (h : encOK (word :: ls) = true) : openV (encB (word :: ls)) word n = some ls := by
  subst hn
  have h1 := enc_dec h
  unfold openV
  rw [h1.1, h1.2]
  simp
theorem openV_dec {l word : List UInt8} {n : Nat} {ls : List (List UInt8)} (h : openV l word n = some ls) : encB (word :: ls) = l := by
  unfold openV at h
  split at h
  · rename_i h1
    cases h
    have h2 := dec_enc h1.1
    refine Eq.trans ?_ h2.2
    generalize decV l = m at *
    cases m with
    | nil => simp at h1
    | cons a m => have := h1.2.2; simp at this; rw [this]; rfl
  · cases h
/-- The fields of a root's inner part. -/
def innerOK (a b c d e f : List UInt8) : Bool := decide (a.length = 8) && decide (b.length = 8) && decide (c.length = 8) && decide (d.length = 32) && decide (e.length = 32) && decide (f.length = 32)
def rootI : Option (List (List UInt8)) → Option (List UInt8 → RootV)
  | some [a, b, c, d, e, f] => if innerOK a b c d e f then some (fun y => ⟨numV a, numV b, numV c, d, e, f, y⟩) else none
  | _ => none
def rootO : Option (List (List UInt8)) → Option RootV
  | some [x, y] => match rootI (openV x rootW 6) with
    | some F => if y.length = 64 then some (F y) else none
    | none => none
  | _ => none
def rootD (b : List UInt8) : Option RootV := rootO (openV b signedW 2)
def rootZ : RootV := ⟨0, 0, 0, List.replicate 32 0, List.replicate 32 0, List.replicate 32 0, List.replicate 64 0⟩
def rootR (b : List UInt8) : RootV := (rootD b).getD rootZ
def rootE (b : List UInt8) : Int := if (rootD b).isSome then 0 else 2
theorem num4_lt4 (l : List UInt8) : num4 l < 4294967296 := num4_lt l
theorem be8_num {a : List UInt8} (h : a.length = 8) : be8 (numV a) = a := by
  have h1 := num4_lt a
  have h2 := num4_lt (a.drop 4)
  have e1 : (num4 a * 4294967296 + num4 (a.drop 4)) / 4294967296 = num4 a := by omega
  have e2 : (num4 a * 4294967296 + num4 (a.drop 4)) % 4294967296 = num4 (a.drop 4) := by omega
  unfold be8 numV
  rw [if_pos h, e1, e2, be4_num4 a (by omega), be4_num4 (a.drop 4) (by rw [List.length_drop]; omega)]
  rw [List.take_of_length_le (l := a.drop 4) (by rw [List.length_drop]; omega), List.take_append_drop]
theorem numV_lt (a : List UInt8) : numV a < 18446744073709551616 := by
  have h1 := num4_lt a
  have h2 := num4_lt (a.drop 4)
  unfold numV
  split <;> omega
theorem root_dec_enc {r : RootV} (h : r.ok) : rootD (signB r) = some r := by
  unfold rootD signB
  rw [show signL r = signedW :: [rootB r, r.s] from rfl, openV_enc (n := 2) (ls := [rootB r, r.s]) rfl (signL_ok h)]
  unfold rootO rootB
  simp only
  rw [show rootL r = rootW :: [be8 r.e, be8 r.k, be8 r.g, r.p, r.h, r.l] from rfl, openV_enc (n := 6) (ls := [be8 r.e, be8 r.k, be8 r.g, r.p, r.h, r.l]) rfl (rootL_ok h)]
  simp [rootI, innerOK, be8_length, h.p, h.h, h.l, h.s, (num_be8 r.e h.e).1, (num_be8 r.k h.k).1, (num_be8 r.g h.g).1]
theorem root_enc_dec {b : List UInt8} {r : RootV} (h : rootD b = some r) : signB r = b ∧ r.ok := by
  unfold rootD at h
  cases h1 : openV b signedW 2 with
  | none => rw [h1] at h; cases h
  | some ls =>
    rw [h1] at h
    have h2 := openV_length h1
    obtain ⟨x, y, rfl⟩ : ∃ x y, ls = [x, y] := by
      match ls, h2 with
      | [x, y], _ => exact ⟨x, y, rfl⟩
    unfold rootO at h
    simp only at h
    cases h3 : openV x rootW 6 with
    | none => rw [h3] at h; simp [rootI] at h
    | some ms =>
      rw [h3] at h
      have h4 := openV_length h3
      obtain ⟨a, b', c, d, e, f, rfl⟩ : ∃ a b' c d e f, ms = [a, b', c, d, e, f] := by
        match ms, h4 with
        | [a, b', c, d, e, f], _ => exact ⟨a, b', c, d, e, f, rfl⟩
      unfold rootI at h
      simp only at h
      by_cases h5 : innerOK a b' c d e f = true
      · rw [if_pos h5] at h
        simp only at h
        by_cases h6 : y.length = 64
        · rw [if_pos h6] at h
          cases h
          simp only [innerOK, Bool.and_eq_true, decide_eq_true_eq] at h5
          obtain ⟨⟨⟨⟨⟨l1, l2⟩, l3⟩, l4⟩, l5⟩, l6⟩ := h5
          refine ⟨?_, ⟨numV_lt _, numV_lt _, numV_lt _, l4, l5, l6, h6⟩⟩
          unfold signB signL rootB rootL
          simp only
          rw [be8_num l1, be8_num l2, be8_num l3, openV_dec h3, openV_dec h1]
        · rw [if_neg h6] at h; cases h
      · rw [if_neg h5] at h; cases h
/-- A value that is a slice of bytes which read as l. -/
def Itm (w : World) (v : Value) (l : List UInt8) : Prop := ∃ A c, v = .slice A l.length c ∧ l.length ≤ c ∧ Reads w w.heap.size 1 A l.length (bvs l)
theorem Itm.below {w w' : World} {v : Value} {l : List UInt8} (h : Itm w v l) (hb : Below w.heap.size w w') : Itm w' v l := by
  obtain ⟨A, c, rfl, hc, hr⟩ := h
  exact ⟨A, c, rfl, hc, (hr.keep fun _ hp => hb.cell hp).more hb.size⟩
theorem Itm.own {w : World} {base : Nat} {v : Value} {l : List UInt8} (h : Own8 w base v l) : Itm w v l := by
  obtain ⟨A, c, rfl, hc, hr⟩ := own8_form h
  exact ⟨A, c, rfl, hc, hr⟩
inductive Itms (w : World) : List Value → List (List UInt8) → Prop
  | nil : Itms w [] []
  | cons {v : Value} {l : List UInt8} {vs : List Value} {ls : List (List UInt8)} (h : Itm w v l) (t : Itms w vs ls) : Itms w (v :: vs) (l :: ls)
theorem Itms.length {w : World} {vs : List Value} {ls : List (List UInt8)} (h : Itms w vs ls) : vs.length = ls.length := by
  induction h with
  | nil => rfl
  | cons _ _ ih => simp [ih]
theorem Itms.at_ {w : World} {vs : List Value} {ls : List (List UInt8)} (h : Itms w vs ls) : ∀ (i : Nat) (hi : i < ls.length), ∃ A c, vs[i]? = some (.slice A ls[i].length c) ∧ ls[i].length ≤ c ∧ Reads w w.heap.size 1 A ls[i].length (bvs ls[i]) := by
  induction h with
  | nil => intro i hi; simp at hi
  | cons h t ih =>
    intro i hi
    cases i with
    | zero => obtain ⟨A, c, rfl, hc, hr⟩ := h; exact ⟨A, c, rfl, hc, hr⟩
    | succ i => exact ih i (by simpa using hi)
/-- A list that was just built. -/
theorem Itms.lists {w : World} {vs : List Value} {ls : List (List UInt8)} (h : Itms w vs ls) (t : TypeId) : Lists (w.alloc (.cells vs.toArray t)) (w.alloc (.cells vs.toArray t)).heap.size (some ⟨w.heap.size, 0, none⟩) ls := by
  refine ⟨vs, ⟨by rw [h.length]; simp, fun _ => ⟨_, rfl, by simp, fun j u hu => ?_⟩⟩, fun i hi => ?_⟩
  · rw [add_none, Nat.zero_add, cell_new]; simpa using hu
  · obtain ⟨A, c, hv, hc, hr⟩ := h.at_ i hi
    exact ⟨A, c, hv, hc, (hr.keep fun _ hp => (((Below.refl _ w).alloc (Nat.le_refl _) _).cell hp)).more (by simp)⟩
end Go.Proofs.Ytbpgbihcihnieaa
