/- The texts LNums V1 V2 V4 G2 of this work, merged by wip/merge.py. No conditions. -/
import Derived.Test.YtbpgbihcihnieaaQW3
import Derived.Test.YtbpgbihcihnieaaQW1
import Derived.Test.YtbpgbihcihnieaaQBase
import Derived.Test.YtbpgbihcihnieaaQW7
import Derived.Laws.CopyRow
import Derived.Laws.IdiomCopy
namespace Go.Proofs.Ytbpgbihcihnieaa
open Go.RowKit
theorem num_be8 (n : Nat) (hn : n < 18446744073709551616) : numV (be8 n) = n ∧ numE (be8 n) = 0 := by
  refine ⟨?_, rfl⟩
  have h1 : num4 (be8 n) = n / 4294967296 := num4_be4 _ _ (by omega)
  have h2 : num4 ((be8 n).drop 4) = n % 4294967296 := by
    have : (be8 n).drop 4 = be4 (n % 4294967296) ++ [] := by simp [be8, be4]
    rw [this]; exact num4_be4 _ _ (by omega)
  unfold numV
  rw [if_pos (be8_length n), h1, h2]; omega
theorem below_drewN' {a w w' : World} {q : Nat} (h : Below (w.drewN q).heap.size (w.drewN q) w') (hs : a.heap.size ≤ w.heap.size) : Below a.heap.size w w' :=
  Below.mono (B := w.heap.size) ⟨h.os, h.tape, h.output, h.size, h.block⟩ hs
set_option maxRecDepth 100000 in
set_option maxHeartbeats 1000000 in
theorem WireNums_walk (v0 v1 : Value) (n : Nat) (l : List UInt8) (w : World) (a0 : ArgU v0 n) (a1 : ArgB w v1 l) :
    Calls Try.prog 5 #[v0, v1] w fun e w' => e = .returned (.bool true) ∧ Below w.heap.size w w' := by
  obtain ⟨rfl, hn⟩ := a0
  obtain ⟨A, c, rfl, hc, hr, hm⟩ := a1
  rw [reach_eq] at hm
  have hx := Lib.hid (num_be8 n hn)
  have Hn := Lib.hid hn
  clear hn
  go_enter Try.func5, Try.ntmps5
  have tok1 : True := trivial
  go_wp2_with (first
    | (go_at_call 12; go_must (refine (awake_any _).mono ?_; rintro e w1 ⟨rfl, hb1⟩))
    | (go_at_call 21; go_must (refine (Num_any n Hn.out _).mono ?_; rintro e w2 ⟨v2, rfl, hown2, hb2'⟩; have hb2 := hb1.trans (hb2'.mono hb1.size); obtain ⟨A2, c2, rfl, hc2, hr2⟩ := own8_form hown2))
    | (go_at_call 20; have _t := tok1; go_must (refine (ReadNum_any A2 c2 _ (be8 n) _ hr2 hc2 (by simp [be8_length])).mono ?_; rintro e w3 ⟨rfl, q3, rfl⟩; rw [hx.out.1, hx.out.2]; clear tok1))
    | (go_at_call 20; go_must (refine (ReadNum_any A c _ l _ ((hr.below hb2).drewN _) hc (by omega)).mono ?_; rintro e w4 ⟨rfl, q4, rfl⟩))
    | (go_at_call 22; go_must (refine (rReadNum_any A c _ l _ ((hr.below hb2).drewN _) (by omega)).mono ?_; rintro e w5 ⟨rfl, q5, rfl⟩)))
  refine Any.start (by kernel_rfl) rfl ?_
  apply Any.take (i := 0) rfl (by kernel_rfl) rfl
  · intro w' hC K hK
    go_wp2
    exact hK
  · rfl
  apply Any.take (i := 1) rfl (by kernel_rfl) rfl
  · intro w' hC K hK
    go_wp2
    exact hK
  · rfl
  apply Any.take (i := 2) rfl (by kernel_rfl) rfl
  · intro w' hC K hK
    go_wp2
    exact hK
  · rfl
  apply Any.take (i := 3) rfl (by kernel_rfl) rfl
  · intro w' hC K hK
    go_wp2
    exact hK
  · rfl
  apply Any.take (i := 4) rfl (by kernel_rfl) rfl
  · intro w' hC K hK
    go_wp2
    exact hK
  · rfl
  apply Any.take (i := 5) rfl (by kernel_rfl) rfl
  · intro w' hC K hK
    go_wp2
    exact hK
  · rfl
  apply Any.take (i := 6) rfl (by kernel_rfl) rfl
  · intro w' hC K hK
    go_wp2
    exact hK
  · rfl
  apply Any.take (i := 7) rfl (by kernel_rfl) rfl
  · intro w' hC K hK
    go_wp2
    exact hK
  · rfl
  apply Any.take (i := 8) rfl (by kernel_rfl) rfl
  · intro w' hC K hK
    go_wp2
    exact hK
  · rfl
  apply Any.take (i := 11) rfl (by kernel_rfl) rfl
  · intro w' hC K hK
    go_wp2
    exact hK
  · rfl
  apply Any.solo (i := 9) rfl (by kernel_rfl)
  intro w6 hC
  go_wp2_with (go_at_call 21; go_must (refine (Num_any n Hn.out _).mono ?_; rintro e w7 ⟨v7, rfl, hown7, hb7⟩; obtain ⟨A7, c7, rfl, hc7, hr7⟩ := own8_form hown7))
  refine ⟨rfl, hC.trans (hb7.mono hC.size), ?_⟩
  apply Any.take (i := 10) rfl (by kernel_rfl) rfl
  · intro w' hC' K hK
    have hs := run_str8 (hr7.below hC') c7
    go_wp2
    exact hK
  · rfl
  apply Any.solo (i := 12) rfl (by kernel_rfl)
  intro w8 hC8
  go_wp2_with (go_at_call 23; go_must (refine (rNum_any n Hn.out _).mono ?_; rintro e w9 ⟨v9, rfl, hown9, hb9⟩; obtain ⟨A9, c9, rfl, hc9, hr9⟩ := own8_form hown9))
  refine ⟨rfl, hC8.trans (hb9.mono hC8.size), ?_⟩
  apply Any.take (i := 13) rfl (by kernel_rfl) rfl
  · intro w' hC' K hK
    have hs := run_str8 (hr9.below hC') c9
    go_wp2
    exact hK
  · rfl
  apply Any.take (i := 14) rfl (by kernel_rfl) rfl
  · intro w' hC K hK
    go_wp2
    exact hK
  · rfl
  apply Any.take (i := 15) rfl (by kernel_rfl) rfl
  · intro w' hC K hK
    go_wp2
    exact hK
  · rfl
  apply Any.take (i := 16) rfl (by kernel_rfl) rfl
  · intro w' hC K hK
    go_wp2
    exact hK
  · rfl
  apply Any.take (i := 17) rfl (by kernel_rfl) rfl
  · intro w' hC K hK
    go_wp2
    exact hK
  · rfl
  apply Any.take (i := 18) rfl (by kernel_rfl) rfl
  · intro w' hC K hK
    go_wp2
    exact hK
  · rfl
  apply Any.take (i := 19) rfl (by kernel_rfl) rfl
  · intro w' hC K hK
    go_wp2
    exact hK
  · rfl
  apply Any.take (i := 20) rfl (by kernel_rfl) rfl
  · intro w' hC K hK
    go_wp2
    exact hK
  · rfl
  apply Any.take (i := 21) rfl (by kernel_rfl) rfl
  · intro w' hC K hK
    go_wp2
    exact hK
  · rfl
  apply Any.take (i := 22) rfl (by kernel_rfl) rfl
  · intro w' hC K hK
    go_wp2
    exact hK
  · rfl
  apply Any.take (i := 23) rfl (by kernel_rfl) rfl
  · intro w' hC K hK
    go_wp2
    exact hK
  · rfl
  apply Any.take (i := 24) rfl (by kernel_rfl) rfl
  · intro w' hC K hK
    go_wp2
    exact hK
  · rfl
  apply Any.take (i := 25) rfl (by kernel_rfl) rfl
  · intro w' hC K hK
    go_wp2
    exact hK
  · rfl
  apply Any.take (i := 26) rfl (by kernel_rfl) rfl
  · intro w' hC K hK
    go_wp2
    exact hK
  · rfl
  refine Any.done (by kernel_rfl) (fun w' hC' => ?_)
  go_wp2
  go_ret
  exact ⟨rfl, hb2.trans (below_drewN' (hC.trans ((hb7.trans ((hC8.trans ((hb9.trans (hC'.mono hb9.size)).mono hC8.size)).mono hb7.size)).mono hC.size)) hb2.size)⟩
end Go.Proofs.Ytbpgbihcihnieaa

namespace Go.Proofs.Ytbpgbihcihnieaa
open Go.RowKit
/-- A root. -/
structure RootV where
  e : Nat
  k : Nat
  g : Nat
  p : List UInt8
  h : List UInt8
  l : List UInt8
  s : List UInt8
structure RootV.ok (r : RootV) : Prop where
  e : r.e < 18446744073709551616
  k : r.k < 18446744073709551616
  g : r.g < 18446744073709551616
  p : r.p.length = 32
  h : r.h.length = 32
  l : r.l.length = 32
  s : r.s.length = 64
/-- Its cells: three numbers and four rows of bytes. -/
def RootV.vs (r : RootV) : List Value := .int .u64 r.e :: .int .u64 r.k :: .int .u64 r.g :: (bvs r.p ++ (bvs r.h ++ (bvs r.l ++ bvs r.s)))
def RootV.cs (r : RootV) : Array Value := r.vs.toArray
def rootW : List UInt8 := [114, 111, 111, 116]
def signedW : List UInt8 := [115, 105, 103, 110, 101, 100]
def rootL (r : RootV) : List (List UInt8) := [rootW, be8 r.e, be8 r.k, be8 r.g, r.p, r.h, r.l]
def rootB (r : RootV) : List UInt8 := encB (rootL r)
def signL (r : RootV) : List (List UInt8) := [signedW, rootB r, r.s]
def signB (r : RootV) : List UInt8 := encB (signL r)
theorem rootL_ok {r : RootV} (h : r.ok) : encOK (rootL r) = true := encOK_of (by simp [rootL]) (by simp [rootL, bulk, rootW, be8_length, h.p, h.h, h.l])
theorem rootB_length {r : RootV} (h : r.ok) : (rootB r).length = 156 := by
  rw [rootB, encB_ok (rootL_ok h), List.length_append, be4_length, members_length]
  simp [rootL, bulk, rootW, be8_length, h.p, h.h, h.l]
theorem signL_ok {r : RootV} (h : r.ok) : encOK (signL r) = true := encOK_of (by simp [signL]) (by simp [signL, bulk, signedW, rootB_length h, h.s])
/-- open: the fields of a thing of a word. -/
def openV (l word : List UInt8) (n : Nat) : Option (List (List UInt8)) := if decE l = 0 ∧ (decV l).length = n + 1 ∧ (decV l).getD 0 [] = word then some (decV l).tail else none
theorem openV_length {l word : List UInt8} {n : Nat} {ls : List (List UInt8)} (h : openV l word n = some ls) : ls.length = n := by
  unfold openV at h
  split at h
  · rename_i h1
    cases h
    simp [h1.2.1]
  · cases h
theorem openV_enc {word : List UInt8} {ls : List (List UInt8)} {n : Nat} (hn : ls.length = n) (h : encOK (word :: ls) = true) : openV (encB (word :: ls)) word n = some ls := by
  subst hn
  have h1 := enc_dec h
  unfold openV
  rw [h1.1, h1.2]
  simp
theorem openV_dec {l word : List UInt8} {n : Nat} {ls : List (List UInt8)} (h : openV l word n = some ls) : encB (word :: ls) = l := by
  unfold openV at h
  split at h
  · rename_i h1
    cases h
    have h2 := dec_enc h1.1
    refine Eq.trans ?_ h2.2
    generalize decV l = m at *
    cases m with
    | nil => simp at h1
    | cons a m => have := h1.2.2; simp at this; rw [this]; rfl
  · cases h
/-- The fields of a root's inner part. -/
def innerOK (a b c d e f : List UInt8) : Bool := decide (a.length = 8) && decide (b.length = 8) && decide (c.length = 8) && decide (d.length = 32) && decide (e.length = 32) && decide (f.length = 32)
def rootI : Option (List (List UInt8)) → Option (List UInt8 → RootV)
  | some [a, b, c, d, e, f] => if innerOK a b c d e f then some (fun y => ⟨numV a, numV b, numV c, d, e, f, y⟩) else none
  | _ => none
def rootO : Option (List (List UInt8)) → Option RootV
  | some [x, y] => match rootI (openV x rootW 6) with
    | some F => if y.length = 64 then some (F y) else none
    | none => none
  | _ => none
def rootD (b : List UInt8) : Option RootV := rootO (openV b signedW 2)
def rootZ : RootV := ⟨0, 0, 0, List.replicate 32 0, List.replicate 32 0, List.replicate 32 0, List.replicate 64 0⟩
def rootR (b : List UInt8) : RootV := (rootD b).getD rootZ
def rootE (b : List UInt8) : Int := if (rootD b).isSome then 0 else 2
theorem num4_lt4 (l : List UInt8) : num4 l < 4294967296 := num4_lt l
theorem be8_num {a : List UInt8} (h : a.length = 8) : be8 (numV a) = a := by
  have h1 := num4_lt a
  have h2 := num4_lt (a.drop 4)
  have e1 : (num4 a * 4294967296 + num4 (a.drop 4)) / 4294967296 = num4 a := by omega
  have e2 : (num4 a * 4294967296 + num4 (a.drop 4)) % 4294967296 = num4 (a.drop 4) := by omega
  unfold be8 numV
  rw [if_pos h, e1, e2, be4_num4 a (by omega), be4_num4 (a.drop 4) (by rw [List.length_drop]; omega)]
  rw [List.take_of_length_le (l := a.drop 4) (by rw [List.length_drop]; omega), List.take_append_drop]
theorem numV_lt (a : List UInt8) : numV a < 18446744073709551616 := by
  have h1 := num4_lt a
  have h2 := num4_lt (a.drop 4)
  unfold numV
  split <;> omega
theorem root_dec_enc {r : RootV} (h : r.ok) : rootD (signB r) = some r := by
  unfold rootD signB
  rw [show signL r = signedW :: [rootB r, r.s] from rfl, openV_enc (n := 2) (ls := [rootB r, r.s]) rfl (signL_ok h)]
  unfold rootO rootB
  simp only
  rw [show rootL r = rootW :: [be8 r.e, be8 r.k, be8 r.g, r.p, r.h, r.l] from rfl, openV_enc (n := 6) (ls := [be8 r.e, be8 r.k, be8 r.g, r.p, r.h, r.l]) rfl (rootL_ok h)]
  simp [rootI, innerOK, be8_length, h.p, h.h, h.l, h.s, (num_be8 r.e h.e).1, (num_be8 r.k h.k).1, (num_be8 r.g h.g).1]
theorem root_enc_dec {b : List UInt8} {r : RootV} (h : rootD b = some r) : signB r = b ∧ r.ok := by
  unfold rootD at h
  cases h1 : openV b signedW 2 with
  | none => rw [h1] at h; cases h
  | some ls =>
    rw [h1] at h
    have h2 := openV_length h1
    obtain ⟨x, y, rfl⟩ : ∃ x y, ls = [x, y] := by
      match ls, h2 with
      | [x, y], _ => exact ⟨x, y, rfl⟩
    unfold rootO at h
    simp only at h
    cases h3 : openV x rootW 6 with
    | none => rw [h3] at h; simp [rootI] at h
    | some ms =>
      rw [h3] at h
      have h4 := openV_length h3
      obtain ⟨a, b', c, d, e, f, rfl⟩ : ∃ a b' c d e f, ms = [a, b', c, d, e, f] := by
        match ms, h4 with
        | [a, b', c, d, e, f], _ => exact ⟨a, b', c, d, e, f, rfl⟩
      unfold rootI at h
      simp only at h
      by_cases h5 : innerOK a b' c d e f = true
      · rw [if_pos h5] at h
        simp only at h
        by_cases h6 : y.length = 64
        · rw [if_pos h6] at h
          cases h
          simp only [innerOK, Bool.and_eq_true, decide_eq_true_eq] at h5
          obtain ⟨⟨⟨⟨⟨l1, l2⟩, l3⟩, l4⟩, l5⟩, l6⟩ := h5
          refine ⟨?_, ⟨numV_lt _, numV_lt _, numV_lt _, l4, l5, l6, h6⟩⟩
          unfold signB signL rootB rootL
          simp only
          rw [be8_num l1, be8_num l2, be8_num l3, openV_dec h3, openV_dec h1]
        · rw [if_neg h6] at h; cases h
      · rw [if_neg h5] at h; cases h
/-- A value that is a slice of bytes which read as l. -/
def Itm (w : World) (v : Value) (l : List UInt8) : Prop := ∃ A c, v = .slice A l.length c ∧ l.length ≤ c ∧ Reads w w.heap.size 1 A l.length (bvs l)
theorem Itm.below {w w' : World} {v : Value} {l : List UInt8} (h : Itm w v l) (hb : Below w.heap.size w w') : Itm w' v l := by
  obtain ⟨A, c, rfl, hc, hr⟩ := h
  exact ⟨A, c, rfl, hc, (hr.keep fun _ hp => hb.cell hp).more hb.size⟩
theorem Itm.own {w : World} {base : Nat} {v : Value} {l : List UInt8} (h : Own8 w base v l) : Itm w v l := by
  obtain ⟨A, c, rfl, hc, hr⟩ := own8_form h
  exact ⟨A, c, rfl, hc, hr⟩
inductive Itms (w : World) : List Value → List (List UInt8) → Prop
  | nil : Itms w [] []
  | cons {v : Value} {l : List UInt8} {vs : List Value} {ls : List (List UInt8)} (h : Itm w v l) (t : Itms w vs ls) : Itms w (v :: vs) (l :: ls)
theorem Itms.length {w : World} {vs : List Value} {ls : List (List UInt8)} (h : Itms w vs ls) : vs.length = ls.length := by
  induction h with
  | nil => rfl
  | cons _ _ ih => simp [ih]
theorem Itms.at_ {w : World} {vs : List Value} {ls : List (List UInt8)} (h : Itms w vs ls) : ∀ (i : Nat) (hi : i < ls.length), ∃ A c, vs[i]? = some (.slice A ls[i].length c) ∧ ls[i].length ≤ c ∧ Reads w w.heap.size 1 A ls[i].length (bvs ls[i]) := by
  induction h with
  | nil => intro i hi; simp at hi
  | cons h t ih =>
    intro i hi
    cases i with
    | zero => obtain ⟨A, c, rfl, hc, hr⟩ := h; exact ⟨A, c, rfl, hc, hr⟩
    | succ i => exact ih i (by simpa using hi)
/-- A list that was just built. -/
theorem Itms.lists {w : World} {vs : List Value} {ls : List (List UInt8)} (h : Itms w vs ls) (t : TypeId) : Lists (w.alloc (.cells vs.toArray t)) (w.alloc (.cells vs.toArray t)).heap.size (some ⟨w.heap.size, 0, none⟩) ls := by
  refine ⟨vs, ⟨by rw [h.length]; simp, fun _ => ⟨_, rfl, by simp, fun j u hu => ?_⟩⟩, fun i hi => ?_⟩
  · rw [add_none, Nat.zero_add, cell_new]; simpa using hu
  · obtain ⟨A, c, hv, hc, hr⟩ := h.at_ i hi
    exact ⟨A, c, hv, hc, (hr.keep fun _ hp => (((Below.refl _ w).alloc (Nat.le_refl _) _).cell hp)).more (by simp)⟩
end Go.Proofs.Ytbpgbihcihnieaa

namespace Go.Proofs.Ytbpgbihcihnieaa
open Go.RowKit
def BPost (l : List UInt8) (w : World) (e : Ending) (w' : World) : Prop := ∃ v, e = .returned v ∧ Own8 w' w.heap.size v l ∧ Below w.heap.size w w'
set_option maxRecDepth 100000 in
set_option maxHeartbeats 400000 in
theorem must_any (A : Option Addr) (n c : Nat) (ls : List (List UInt8)) (w : World) (hl : Lists w w.heap.size A ls) (hc : ls.length = n) (hn : n ≤ 140737488355328) : Calls Try.prog 56 #[.slice A n c] w (BPost (encB ls) w) := by
  subst hc
  go_enter Try.func56, Try.ntmps56
  go_wp2_with (go_at_call 14; go_must (refine (Encode_any A c ls w hl hn).mono ?_; rintro e w1 ⟨v, rfl, ho, hb⟩; obtain ⟨A1, c1, rfl, hc1, hr1⟩ := own8_form ho))
  go_ret
  exact ⟨_, rfl, ho, hb⟩
theorem root_at {w : World} {b : Nat} {r : RootV} {t : TypeId} {f : Nat × Nat} (h : w.heap[b]? = some (.cells r.cs t f)) : w.cell? ⟨b, 0, none⟩ = some (.int .u64 r.e) ∧ w.cell? ⟨b, 1, none⟩ = some (.int .u64 r.k) ∧ w.cell? ⟨b, 2, none⟩ = some (.int .u64 r.g) := by
  refine ⟨?_, ?_, ?_⟩ <;> rw [cell_of_row w b _ _ _ _ h] <;> rfl
theorem Itm.at_ {w : World} {b off n : Nat} {cs : Array Value} {l : List UInt8} {t : TypeId} {f : Nat × Nat} (h : w.heap[b]? = some (.cells cs t f)) (hl : l.length = n) (hc : ∀ j, j < n → cs[off + j]? = (bvs l)[j]?) : Itm w (.slice (some ⟨b, off, none⟩) n n) l := by
  subst hl
  refine ⟨_, _, rfl, Nat.le_refl _, by simp [bvs_length], fun _ => ⟨_, rfl, lt_of_heap h, fun j u hu => ?_⟩⟩
  have hj : j < l.length := by
    rcases Nat.lt_or_ge j l.length with h' | h'
    · exact h'
    · rw [List.getElem?_eq_none (by simp [bvs_length]; exact h')] at hu; cases hu
  rw [add_none, cell_of_row w b (off + j) _ _ _ h, hc j hj, hu]
theorem root_parts {w : World} {b : Nat} {r : RootV} (hr : r.ok) {t : TypeId} {f : Nat × Nat} (h : w.heap[b]? = some (.cells r.cs t f)) : Itm w (.slice (some ⟨b, 3, none⟩) 32 32) r.p ∧ Itm w (.slice (some ⟨b, 35, none⟩) 32 32) r.h ∧ Itm w (.slice (some ⟨b, 67, none⟩) 32 32) r.l ∧ Itm w (.slice (some ⟨b, 99, none⟩) 64 64) r.s := by
  have e : ∀ j, r.cs[j + 3]? = (bvs r.p ++ (bvs r.h ++ (bvs r.l ++ bvs r.s)))[j]? := fun j => by
    unfold RootV.cs RootV.vs
    simp
  refine ⟨Itm.at_ h hr.p fun j hj => ?_, Itm.at_ h hr.h fun j hj => ?_, Itm.at_ h hr.l fun j hj => ?_, Itm.at_ h hr.s fun j hj => ?_⟩
  · rw [show 3 + j = j + 3 from by omega, e, List.getElem?_append_left (by simp [bvs_length, hr.p]; exact hj)]
  · rw [show 35 + j = (j + 32) + 3 from by omega, e, List.getElem?_append_right (by simp [bvs_length, hr.p]), List.getElem?_append_left (by simp [bvs_length, hr.p, hr.h]; omega)]
    congr 1; simp [bvs_length, hr.p]
  · rw [show 67 + j = (j + 64) + 3 from by omega, e, List.getElem?_append_right (by simp [bvs_length, hr.p]), List.getElem?_append_right (by simp [bvs_length, hr.p, hr.h]), List.getElem?_append_left (by simp [bvs_length, hr.p, hr.h, hr.l]; omega)]
    congr 1; simp [bvs_length, hr.p, hr.h]
  · rw [show 99 + j = (j + 96) + 3 from by omega, e, List.getElem?_append_right (by simp [bvs_length, hr.p]), List.getElem?_append_right (by simp [bvs_length, hr.p, hr.h]), List.getElem?_append_right (by simp [bvs_length, hr.p, hr.h, hr.l])]
    congr 1; simp [bvs_length, hr.p, hr.h, hr.l]
/-- []byte of a constant: the block behind it is marked, nothing else. -/
theorem run_conv_mark {w : World} {b n c m : Nat} {C : Array Value} (h : w.heap[b]? = some (.cells C 5 (0, 0))) (hm : C.size = m) :
    (convert 24 24 (.slice (some ⟨b, 0, none⟩) n c)).run Try.prog w = .ok (.slice (some ⟨b, 0, none⟩) n c) (w.freeze ⟨b, m, none⟩ 1) := by
  subst hm
  have hsh : w.shape? b = some (5, C.size) := by
    unfold World.shape?
    rw [h]
  simp [convert, run_underlying Try.underlying24, run_underlying Try.underlying5, markStringish, hsh]
theorem mark_world {w : World} {b n : Nat} {C : Array Value} {t : TypeId} (h : w.heap[b]? = some (.cells C t (0, 0))) :
    (∀ a, (w.freeze ⟨b, n, none⟩ 1).cell? a = w.cell? a) ∧ (w.freeze ⟨b, n, none⟩ 1).heap.size = w.heap.size ∧ (∀ k, k ≠ b → (w.freeze ⟨b, n, none⟩ 1).heap[k]? = w.heap[k]?) ∧ (∀ B, B ≤ b → Below B w (w.freeze ⟨b, n, none⟩ 1)) := by
  have hs : (w.freeze ⟨b, n, none⟩ 1).heap.size = w.heap.size := by
    unfold World.freeze
    rw [if_neg (by decide)]
    simp
  have hne : ∀ k, k ≠ b → (w.freeze ⟨b, n, none⟩ 1).heap[k]? = w.heap[k]? := fun k hk => by
    unfold World.freeze
    rw [if_neg (by decide)]
    simp only [Array.getElem?_modify]
    rw [if_neg (fun e => hk e.symm)]
  have hb : ∃ f, (w.freeze ⟨b, n, none⟩ 1).heap[b]? = some (.cells C t f) := by
    unfold World.freeze
    rw [if_neg (by decide)]
    simp only [Array.getElem?_modify, if_pos, h, Option.map_some]
    exact ⟨_, rfl⟩
  refine ⟨fun a => ?_, hs, hne, fun B hB => ⟨?_, ?_, ?_, Nat.le_of_eq hs.symm, fun k hk => hne k (by omega)⟩⟩
  · by_cases e : a.block = b
    · obtain ⟨f, hf⟩ := hb
      unfold World.cell?
      rw [e, hf, h]
    · unfold World.cell?
      rw [hne _ e]
  all_goals (unfold World.freeze; rw [if_neg (by decide)])
theorem Itm.cells {w w' : World} {v : Value} {l : List UInt8} (h : Itm w v l) (hc : ∀ a, w'.cell? a = w.cell? a) (hs : w'.heap.size = w.heap.size) : Itm w' v l := by
  obtain ⟨A, c, rfl, h1, hr⟩ := h
  exact ⟨A, c, rfl, h1, (hr.keep fun _ _ => hc _).more (Nat.le_of_eq hs.symm)⟩
theorem Itm.row {w : World} {b n : Nat} {l : List UInt8} {t : TypeId} {f : Nat × Nat} {C : Array Value} (h : w.heap[b]? = some (.cells C t f)) (hC : C = (bvs l).toArray) (hl : l.length = n) : Itm w (.slice (some ⟨b, 0, none⟩) n n) l :=
  Itm.at_ h hl (fun j _ => by rw [Nat.zero_add, hC]; simp)
theorem rootW_cells : (#[.int .u8 114, .int .u8 111, .int .u8 111, .int .u8 116] : Array Value) = (bvs rootW).toArray := rfl
theorem signedW_cells : (#[.int .u8 115, .int .u8 105, .int .u8 103, .int .u8 110, .int .u8 101, .int .u8 100] : Array Value) = (bvs signedW).toArray := rfl
end Go.Proofs.Ytbpgbihcihnieaa

namespace Go.Proofs.Ytbpgbihcihnieaa
open Go.RowKit
def PartsPost (l word : List UInt8) (n : Nat) (w : World) (e : Ending) (w' : World) : Prop := ∃ v, e = .returned (.tuple #[v, .bool (openV l word n).isSome]) ∧ OwnL w' w.heap.size v (decV l) ∧ Below w.heap.size w w'
theorem openV_bad {l word : List UInt8} {n : Nat} (h : ¬ decE l = 0) : openV l word n = none := by
  unfold openV
  rw [if_neg (fun h' => h h'.1)]
theorem openV_len {l word : List UInt8} {n : Nat} (h : ¬ (decV l).length = n + 1) : openV l word n = none := by
  unfold openV
  rw [if_neg (fun h' => h h'.2.1)]
theorem openV_word {l word : List UInt8} {n : Nat} (h : ¬ (decV l).getD 0 [] = word) : openV l word n = none := by
  unfold openV
  rw [if_neg (fun h' => h h'.2.2)]
theorem openV_yes {l word : List UInt8} {n : Nat} (h0 : decE l = 0) (h1 : (decV l).length = n + 1) (h : (decV l).getD 0 [] = word) : openV l word n = some (decV l).tail := by
  unfold openV
  rw [if_pos ⟨h0, h1, h⟩]
set_option maxRecDepth 100000 in
set_option maxHeartbeats 1000000 in
theorem rparts_any (A : Option Addr) (c n : Nat) (l word : List UInt8) (X : Int) (hX : X = ((n + 1 : Nat) : Int)) (hn : n < 100) (w : World) (hr : Reads w w.heap.size 1 A l.length (bvs l)) (hc : l.length ≤ c) (hm : l.length ≤ 140737488355328) :
    Calls Try.prog 54 #[.slice A l.length c, .string ⟨word.toArray⟩, .int .i64 X] w (PartsPost l word n w) := by
  obtain ⟨N, hN⟩ : ∃ N, N = n + 1 := ⟨_, rfl⟩
  rw [← hN] at hX
  subst hX
  have HN := Lib.hid hN
  by_cases hE : decE l = 0
  · obtain ⟨ls, hls⟩ : ∃ ls, decV l = ls := ⟨_, rfl⟩
    have Hls := Lib.hid hls
    have HE := Lib.hid hE
    have HD : Hid (Calls Try.prog 24 #[.slice A l.length c] w fun e w1 => ∃ v, e = .returned (.tuple #[v, .int .i64 0]) ∧ OwnL w1 w.heap.size v ls ∧ Below w.heap.size w w1) := (rDecode_any A c l w hr hc hm).mono (by
      rintro e w1 ⟨v, rfl, ho, hb⟩
      rw [hE]
      rw [hls] at ho
      exact ⟨v, rfl, ho, hb⟩)
    clear hr hc hm hE hls hN
    by_cases hlen : ((ls.length : Int) == (N : Int)) = true
    · have hL : ls.length = N := by have := eq_of_beq hlen; omega
      have HL := Lib.hid hL
      have h0 : 0 < ls.length := by have := HN.out; omega
      have H0 := Lib.hid h0
      clear hL
      obtain ⟨x, hx⟩ : ∃ x, ls[0] = x := ⟨_, rfl⟩
      have Hx : Hid (ls.getD 0 [] = x) := by show _ = _; rw [List.getD_eq_getElem?_getD, List.getElem?_eq_getElem h0, ← hx]; rfl
      have hx' := Lib.hid hx
      clear hx
      by_cases he : x = word
      · subst he
        go_enter Try.func54, Try.ntmps54
        go_wp2_with (go_at_call 24; go_must (refine HD.out.mono ?_; rintro e w1 ⟨v, rfl, ho, hb⟩; obtain ⟨A1, c1, rfl, hc1, hl1⟩ := ho.lists; have HO := Lib.hid ho; have HB := Lib.hid hb; obtain ⟨x2, b, off, A', c', hlk, rfl, hbl, hcell, hc', hr'⟩ := hl1.at_ 0 H0.out; obtain rfl : x2 = x := hlk.out.symm.trans hx'.out; rw [Nat.add_zero] at hcell; have hs := fun q => run_str8 (hr'.drewN q) c'; clear ho hb hl1 hlk hc' hc1))
        go_quiet (fail)
        go_wp2
        go_ret2
        exact ⟨_, by rw [openV_yes HE.out (by rw [Hls.out, HL.out, HN.out]) (by rw [Hls.out, Hx.out])]; rfl, by rw [Hls.out]; exact HO.out.drewN _, below_drewN HB.out _⟩
      · have hne : (x == word) = false := by simp [he]
        go_enter Try.func54, Try.ntmps54
        go_wp2_with (go_at_call 24; go_must (refine HD.out.mono ?_; rintro e w1 ⟨v, rfl, ho, hb⟩; obtain ⟨A1, c1, rfl, hc1, hl1⟩ := ho.lists; have HO := Lib.hid ho; have HB := Lib.hid hb; obtain ⟨x2, b, off, A', c', hlk, rfl, hbl, hcell, hc', hr'⟩ := hl1.at_ 0 H0.out; obtain rfl : x2 = x := hlk.out.symm.trans hx'.out; rw [Nat.add_zero] at hcell; have hs := fun q => run_str8 (hr'.drewN q) c'; clear ho hb hl1 hlk hc' hc1))
        go_quiet (fail)
        go_wp2
        go_ret2
        exact ⟨_, by rw [openV_word (by rw [Hls.out, Hx.out]; exact he)]; rfl, by rw [Hls.out]; exact HO.out.drewN _, below_drewN HB.out _⟩
    · have hlen' : ((ls.length : Int) == (N : Int)) = false := by simpa using hlen
      clear hlen
      go_enter Try.func54, Try.ntmps54
      go_wp2_with (go_at_call 24; go_must (refine HD.out.mono ?_; rintro e w1 ⟨v, rfl, ho, hb⟩; obtain ⟨A1, c1, rfl, hc1, hl1⟩ := ho.lists; have HO := Lib.hid ho; have HB := Lib.hid hb; clear ho hb hl1 hc1))
      go_quiet (fail)
      go_wp2
      go_ret2
      exact ⟨_, by rw [openV_len (by rw [Hls.out]; have h_ := HN.out; intro h2_; rw [h2_, h_] at hlen'; simp at hlen')]; rfl, by rw [Hls.out]; exact HO.out.drewN _, below_drewN HB.out _⟩
  · have hX : ∃ x : Int, decE l = x ∧ ((x == 0) = false) ∧ decV l = [] := by
      rcases dec_cases l with h | ⟨h | h, h'⟩
      · exact absurd h.1 hE
      · exact ⟨2, h, rfl, h'⟩
      · exact ⟨6, h, rfl, h'⟩
    obtain ⟨x, hx, hx0, hv0⟩ := hX
    have HE := Lib.hid hE
    have HD : Hid (Calls Try.prog 24 #[.slice A l.length c] w fun e w1 => ∃ v, e = .returned (.tuple #[v, .int .i64 x]) ∧ OwnL w1 w.heap.size v (decV l) ∧ Below w.heap.size w w1) := (rDecode_any A c l w hr hc hm).mono (by
      rintro e w1 ⟨v, rfl, ho, hb⟩
      rw [hx]
      exact ⟨v, rfl, ho, hb⟩)
    clear hr hc hm hE hN hx hv0
    go_enter Try.func54, Try.ntmps54
    go_wp2_with (go_at_call 24; go_must (refine HD.out.mono ?_; rintro e w1 ⟨v, rfl, ho, hb⟩; obtain ⟨A1, c1, rfl, hc1, hl1⟩ := ho.lists; have HO := Lib.hid ho; have HB := Lib.hid hb; clear ho hb hl1 hc1))
    go_quiet (fail)
    go_wp2
    go_ret2
    exact ⟨_, by rw [openV_bad HE.out]; rfl, HO.out.drewN _, below_drewN HB.out _⟩
end Go.Proofs.Ytbpgbihcihnieaa

namespace Go.Proofs.Ytbpgbihcihnieaa
open Go.RowKit
/-- Only the blocks of ps have been written through; others were made. -/
structure Frm (ps : List Nat) (w w' : World) : Prop where
  os : w'.os = w.os
  tape : w'.tape = w.tape
  output : w'.output = w.output
  size : w.heap.size ≤ w'.heap.size
  block : ∀ k, k < w.heap.size → k ∉ ps → w'.heap[k]? = w.heap[k]?
theorem Frm.refl (ps : List Nat) (w : World) : Frm ps w w := ⟨rfl, rfl, rfl, Nat.le_refl _, fun _ _ _ => rfl⟩
theorem Frm.trans {ps : List Nat} {a b c : World} (h : Frm ps a b) (k : Frm ps b c) : Frm ps a c :=
  ⟨k.os.trans h.os, k.tape.trans h.tape, k.output.trans h.output, Nat.le_trans h.size k.size, fun i hi hn => (k.block i (Nat.lt_of_lt_of_le hi h.size) hn).trans (h.block i hi hn)⟩
theorem Frm.more {ps qs : List Nat} {w w' : World} (h : Frm ps w w') (hs : ∀ p ∈ ps, p ∈ qs) : Frm qs w w' := ⟨h.os, h.tape, h.output, h.size, fun k hk hn => h.block k hk fun hp => hn (hs k hp)⟩
theorem Frm.of_below {ps : List Nat} {w w' : World} (h : Below w.heap.size w w') : Frm ps w w' := ⟨h.os, h.tape, h.output, h.size, fun k hk _ => h.block k hk⟩
theorem Frm.below {ps : List Nat} {w w' : World} {B : Nat} (h : Frm ps w w') (hB : B ≤ w.heap.size) (hp : ∀ p ∈ ps, B ≤ p) : Below B w w' :=
  ⟨h.os, h.tape, h.output, h.size, fun k hk => h.block k (by omega) fun hk' => absurd (hp k hk') (by omega)⟩
theorem Frm.heap {ps : List Nat} {w w' : World} {b : Nat} {o : Obj} (h : Frm ps w w') (hb : w.heap[b]? = some o) (hn : b ∉ ps) : w'.heap[b]? = some o := (h.block b (lt_of_heap hb) hn).trans hb
theorem Frm.setCell (w : World) (b i : Nat) (v : Value) : Frm [b] w (w.setCell ⟨b, i, none⟩ v) := by
  have hs : (w.setCell ⟨b, i, none⟩ v).heap.size = w.heap.size := by unfold World.setCell; simp
  exact ⟨rfl, rfl, rfl, Nat.le_of_eq hs.symm, fun k _ hn => Below.heap_setCell w ⟨b, i, none⟩ v k (by simpa using hn)⟩
theorem heap_setRow {w : World} {b : Nat} {C cs : Array Value} {t : TypeId} {f : Nat × Nat} (h : w.heap[b]? = some (.cells C t f)) : (w.setRow b cs).heap[b]? = some (.cells cs t f) := by
  unfold World.setRow
  simp only [Array.getElem?_modify, if_pos, h, Option.map_some]
theorem Frm.setRow (w : World) (b : Nat) (cs : Array Value) : Frm [b] w (w.setRow b cs) ∧ (w.setRow b cs).heap.size = w.heap.size := by
  have hs : (w.setRow b cs).heap.size = w.heap.size := by unfold World.setRow; simp
  refine ⟨⟨rfl, rfl, rfl, Nat.le_of_eq hs.symm, fun k _ hn => ?_⟩, hs⟩
  unfold World.setRow
  simp only [Array.getElem?_modify]
  rw [if_neg (fun e => hn (by simp [e]))]
/-- copy of bytes into a row: what is there behind it. -/
theorem copy_row {w : World} {b off n c m c2 : Nat} {C : Array Value} {t : TypeId} {A : Option Addr} {x : List UInt8} {B : Nat} (h : w.heap[b]? = some (.cells C t (0, 0))) (hr : Reads w B 1 A m (bvs x)) (hx : x.length = m) (hfit : off + n ≤ C.size) :
    ∃ w1 : World, (∀ ty, (Builtin.copy_ #[24, 24] ty #[.slice (some ⟨b, off, none⟩) n c, .slice A m c2]).run Try.prog w = .ok (goInt (Nat.min m n)) w1) ∧
      w1.heap[b]? = some (.cells (C.toList.take off ++ bvs (x.take n) ++ C.toList.drop (off + Nat.min m n)).toArray t (0, 0)) ∧ Frm [b] w w1 ∧ w1.heap.size = w.heap.size := by
  by_cases h0 : Nat.min m n = 0
  · refine ⟨w, fun ty => ?_, ?_, Frm.refl _ _, rfl⟩
    · rw [h0]
      exact run_copy_none (P := Try.prog) w _ _ ty _ _ _ n c m c2 Try.underlying24 (by kernel_rfl) h0
    · have h1 : x.take n = [] := by
        apply List.eq_nil_of_length_eq_zero
        rw [List.length_take, hx, Nat.min_comm]
        exact h0
      rw [h1, h0, Nat.add_zero, show bvs ([] : List UInt8) = [] from rfl, List.append_nil, List.take_append_drop]
      exact h
  · have hm : 0 < m := by
      rcases Nat.eq_zero_or_pos m with e | e
      · subst e; exact absurd (Nat.zero_min n) h0
      · exact e
    obtain ⟨b2, off2, rfl, hb2, hc⟩ := hr.bytes hm
    have hlen : (bvs (x.take n)).length = Nat.min m n := by simp [bvs_length, hx, Nat.min_comm]
    refine ⟨w.setRow b (C.toList.take off ++ bvs (x.take n) ++ C.toList.drop (off + (bvs (x.take n)).length)).toArray, fun ty => ?_, ?_, (Frm.setRow w b _).1, (Frm.setRow w b _).2⟩
    · rw [show (goInt (Nat.min m n)) = goInt (bvs (x.take n)).length from by rw [hlen]]
      refine run_copy_row (P := Try.prog) w _ _ ty _ b off n c _ m c2 C t (bvs (x.take n)) Try.underlying24 (by kernel_rfl) h hlen ?_ ?_ ?_
      · intro j v hv
        rw [add_none]
        have hj : j < Nat.min m n := by
          rcases Nat.lt_or_ge j (Nat.min m n) with h' | h'
          · exact h'
          · rw [List.getElem?_eq_none (by rw [hlen]; exact h')] at hv; cases hv
        have hjm : j < m := Nat.lt_of_lt_of_le hj (Nat.min_le_left _ _)
        have hjn : j < n := Nat.lt_of_lt_of_le hj (Nat.min_le_right _ _)
        rw [hc j hjm]
        simp only [bvs, List.getElem?_map, List.getElem?_take, if_pos hjn] at hv
        rw [List.getElem?_eq_getElem (by omega)] at hv
        rw [List.getD_eq_getElem?_getD, List.getElem?_eq_getElem (by omega)]
        simpa [bv] using hv
      · have h_ : Nat.min m n ≤ n := Nat.min_le_right m n
        rw [hlen]
        omega
      · exact fun v hv => bvs_one _ v hv
    · rw [hlen]
      exact heap_setRow h
end Go.Proofs.Ytbpgbihcihnieaa
