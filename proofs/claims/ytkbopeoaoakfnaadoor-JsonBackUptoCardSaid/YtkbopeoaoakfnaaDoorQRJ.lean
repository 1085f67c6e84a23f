/- The texts RP4 RP5 of this work, merged by wip/merge.py. No conditions. -/
import Derived.Test.YtkbopeoaoakfnaaDoorQRI
import Derived.Test.YtkbopeoaoakfnaaDoorQKB
import Derived.Test.YtkbopeoaoakfnaaDoorQTF
namespace Go.Proofs.YtkbopeoaoakfnaaDoor
open Go.RowKit
/-- A whole rune as it stands. -/
theorem take_rune {c : UInt8} {t : List UInt8} (h34 : c ≠ 34) (h92 : c ≠ 92) (h32 : ¬ c.toNat < 32) (hw : runeW (c :: t) ≠ 0) : (c :: t).take (runeW (c :: t)) = Lib.encodeRune ((Lib.decodeL (c :: t)).1 : Int) := by
  have h1 := (quoteX_eq (l := c :: t) (by simp)).1
  have h2 : quoteX (c :: t) = (c :: t).take (runeW (c :: t)) := by
    unfold quoteX
    show (if c = 34 ∨ c = 92 then _ else if c.toNat < 32 then _ else _) = _
    rw [if_neg (by rintro (h | h); exact h34 h; exact h92 h), if_neg h32, if_neg hw]
  have hr : (Lib.decodeL (c :: t)).1 ≠ 34 ∧ (Lib.decodeL (c :: t)).1 ≠ 92 ∧ ¬ (Lib.decodeL (c :: t)).1 < 32 := by
    rcases Nat.lt_or_ge c.toNat 128 with h | h
    · rw [dl_ascii c t h]
      exact ⟨fun e => h34 (UInt8.toNat_inj.1 e), fun e => h92 (UInt8.toNat_inj.1 e), h32⟩
    · have := dl_high c t h
      exact ⟨by omega, by omega, by omega⟩
  rw [← h2, ← h1]
  unfold quoteR
  rw [if_neg (by rintro (h | h); exact hr.1 h; exact hr.2.1 h), if_neg hr.2.2]
theorem valid_ascii (c : UInt8) (h : c.toNat < 128) : ValidU [c] := by
  obtain ⟨c', l, he, h1, _⟩ := enc_head c.toNat (.inl (by omega))
  obtain ⟨h2, h3⟩ := h1 h
  subst h3
  have h4 : c' = c := UInt8.toNat_inj.1 h2
  have := ValidU.one (r := c.toNat) (.inl (by omega))
  rw [he, h4] at this
  exact this
theorem escP_valid {s : List UInt8} {k : Nat} {x : List UInt8} {k' : Nat} (h : escP s k = some (x, k')) : ValidU x := by
  have hone : ∀ z : Int, 0 ≤ z → z ≤ 1114111 → ¬ (55296 ≤ z ∧ z < 57344) → ValidU (Lib.encodeRune z) := by
    intro z h0 h1 h2
    have := ValidU.one (r := z.toNat) (by omega)
    rwa [Int.toNat_of_nonneg h0] at this
  unfold escP at h
  split at h
  · rename_i b hb
    cases h
    cases hc : s[k + 1]? with
    | none => rw [hc] at hb; cases hb
    | some c =>
      rw [hc] at hb
      have hb' : single c = some b := hb
      refine valid_ascii b ?_
      unfold single at hb'
      split at hb'
      · cases hb'; decide
      split at hb'
      · cases hb'; decide
      split at hb'
      · cases hb'; decide
      split at hb'
      · cases hb'; decide
      split at hb'
      · cases hb'; decide
      split at hb'
      · cases hb'; decide
      split at hb'
      · cases hb'; decide
      split at hb'
      · cases hb'; decide
      · cases hb'
  · have b1 := codeP_bd s k
    have b2 := codeP_bd s (k + 6)
    unfold escU at h
    split at h
    · split at h
      · cases h
        exact hone _ (by omega) (by omega) (by omega)
      · cases h
    · split at h
      · cases h
      · cases h
        exact hone _ (by omega) (by omega) (by omega)
theorem textP_valid (s : List UInt8) : ∀ (n k : Nat) (out y : List UInt8) (k' : Nat), ValidU out → textP s n k out = (some y, k') → ValidU y
  | 0, _, _, _, _, _, h => by unfold textP at h; cases h
  | n + 1, k, out, y, k', ho, h => by
    unfold textP at h
    split at h
    · cases h
    · rename_i c hc
      obtain ⟨_, tl, ht⟩ := drop_cons hc
      split at h
      · cases h; exact ho
      · rename_i n34
        split at h
        · cases h
        · rename_i n32
          split at h
          · split at h
            · cases h
            · rename_i he
              exact textP_valid s n _ _ _ _ (ho.append (escP_valid he)) h
          · rename_i n92
            split at h
            · cases h
            · rename_i hw
              refine textP_valid s n _ _ _ _ (ho.append ?_) h
              rw [ht] at hw ⊢
              rw [take_rune n34 n92 n32 hw]
              exact .one (decL_valid _)
theorem textV_valid {s : List UInt8} {st : PS} (h : (st.text s).fault = none) : ValidU (st.textV s) := by
  unfold PS.text at h
  split at h
  · rename_i h0
    unfold PS.textV
    rw [if_pos h0]
    cases hx : (st.textOf s).1 with
    | none =>
      rw [hx] at h
      exact absurd h (PS.fail_ne _ _ _)
    | some y =>
      have hy : st.textOf s = (some y, (st.textOf s).2) := by rw [← hx]
      exact textP_valid s _ _ _ _ _ .nil hy
  · rename_i h0
    exact absurd h h0
section
variable {α : Type} {s : List UInt8} {e : UInt8} {one : α → PS → α × PS} {n : Nat} {D : Int}
theorem loop_inv2 {I : α → Prop} (hle : ∀ x S, S.at_ ≤ (one x S).2.at_) (hdp : ∀ x S, (one x S).2.depth = S.depth) (hstep : ∀ x S, S.fault = none → S.depth = D → s.length - S.at_ < n → I x → (one x S).2.fault = none → I (one x S).1) :
    ∀ (m : Nat) (x : α) (S : PS), S.fault = none → S.depth = D → s.length - S.at_ < n → s.length - S.at_ < m → I x → (loopP s e one m x S).2.fault = none → I (loopP s e one m x S).1
  | 0, _, _, _, _, _, hm, _, _ => absurd hm (Nat.not_lt_zero _)
  | m + 1, x, S, hf, hD, hn, hm, hI, hend => by
    have h1 : (one x S).2.fault = none := by
      cases h : (one x S).2.fault with
      | none => rfl
      | some a =>
        have h2 := loopP_bad1 (s := s) (e := e) (m := m) (x := x) (S := S) (one := one) (by rw [h]; simp)
        rw [hend, h] at h2
        cases h2
    have hJ := hstep x S hf hD hn hI h1
    have h3 := hle x S
    have h4 := PS.blanks_le (one x S).2 s
    cases h2 : ((one x S).2.blanks s).sees s e with
    | true =>
      rw [loopP_end h1 h2]
      exact hJ
    | false =>
      cases h5 : ((one x S).2.blanks s).sees s 44 with
      | false =>
        have h6 := loopP_bad2 (m := m) h1 h2 h5
        rw [hend] at h6
        cases h6
      | true =>
        have h7 := sees_lt h5
        have h8 := PS.blanks_le (((one x S).2.blanks s).to (((one x S).2.blanks s).at_ + 1)) s
        have h9 : ((one x S).2.blanks s).at_ + 1 ≤ ((((one x S).2.blanks s).to (((one x S).2.blanks s).at_ + 1)).blanks s).at_ := h8
        rw [loopP_next h1 h2 h5] at hend ⊢
        exact loop_inv2 hle hdp hstep m _ _ h1 (by rw [← hD, ← hdp x S]; rfl) (by omega) (by omega) hJ hend
theorem mem_inv2 {I : α → Prop} {st : PS} {x : α} (hle : ∀ x S, S.at_ ≤ (one x S).2.at_) (hdp : ∀ x S, (one x S).2.depth = S.depth) (hstep : ∀ x S, S.fault = none → S.depth = st.depth + 1 → s.length - S.at_ < n → I x → (one x S).2.fault = none → I (one x S).1)
    (hlt : st.at_ < s.length) (hn : s.length - st.at_ ≤ n) (hI : I x) (hend : (memP s e one n x st).2.fault = none) : I (memP s e one n x st).1 ∧ st.depth + 1 ≤ 16 := by
  have ho := PS.open_le st s
  have hdo := PS.open_depth st s
  have hof : (st.open_ s).fault = none := by
    cases h : (st.open_ s).fault with
    | none => rfl
    | some a =>
      have h2 := memP_deep (s := s) (e := e) (one := one) (n := n) (x := x) h
      rw [hend] at h2
      cases h2
  have hd16 : st.depth + 1 ≤ 16 := by
    rcases Int.lt_or_le 16 (st.depth + 1) with h | h
    · exfalso
      have h1 : (st.open_ s).fault ≠ none := by
        show st.openA.fault ≠ none
        unfold PS.openA
        rw [if_pos h]
        exact PS.fail_ne _ _ _
      exact h1 hof
    · exact h
  refine ⟨?_, hd16⟩
  unfold memP at hend ⊢
  split
  · exact hI
  · rename_i h1
    rw [if_neg h1, if_pos hof] at hend
    exact loop_inv2 hle hdp hstep n x _ hof hdo (by omega) (by omega) hI hend
end
theorem goodJL_snoc : ∀ (l : List JV) (j : JV) (d : Nat), goodJL l d → goodJ j d → goodJL (l ++ [j]) d
  | [], j, d, _, h => by simp [goodJL, h]
  | a :: l, j, d, h1, h2 => by
    rw [goodJL] at h1
    rw [List.cons_append, goodJL]
    exact ⟨h1.1, goodJL_snoc l j d h1.2 h2⟩
theorem listOne_depth (s : List UInt8) (n : Nat) (x : List JV) (S : PS) : (listOne (valP s n) x S).2.depth = S.depth := valP_depth s n S
theorem objOne_depth (s : List UInt8) (n : Nat) (x : List (List UInt8) × List JV) (S : PS) : (objOne s (valP s n) x S).2.depth = S.depth := by
  show (valP s n _).2.depth = _
  rw [valP_depth, PS.colon_depth, PS.key_depth]
theorem valP_goodJ (s : List UInt8) : ∀ (n : Nat) (st : PS) (d : Nat), st.fault = none → s.length - st.at_ < n → st.depth + (d : Int) = 16 → (valP s n st).2.fault = none → goodJ (valP s n st).1 d
  | 0, _, _, _, h, _, _ => absurd h (Nat.not_lt_zero _)
  | n + 1, st, d, hf, hn, hd, hend => by
    cases hc : s[st.at_]? with
    | none =>
      rw [valP_none hf hc] at hend
      have h1 : ((st.fail st.at_ 2).numb s).fault ≠ none := by rw [fail_numb (PS.fail_ne _ _ _)]; exact PS.fail_ne _ _ _
      exact absurd hend h1
    | some c =>
      have hlt : st.at_ < s.length := by
        rcases Nat.lt_or_ge st.at_ s.length with h' | h'
        · exact h'
        · rw [List.getElem?_eq_none h'] at hc; cases hc
      have ih := valP_goodJ s n
      rw [valP_some hf hc] at hend ⊢
      by_cases n1 : c = 123
      · rw [if_pos n1] at hend ⊢
        have h1 := mem_inv2 (s := s) (e := 125) (one := objOne s (valP s n)) (n := n) (st := st) (x := ([], [])) (I := fun x => st.depth + 1 ≤ 16 → x.1.length = x.2.length ∧ x.1.Nodup ∧ (∀ k ∈ x.1, ValidU k) ∧ goodJL x.2 (d - 1)) (objOne_le s n) (objOne_depth s n)
          (fun x S hSf hSd hSn hI he hdd => by
            obtain ⟨i1, i2, i3, i4⟩ := hI hdd
            obtain ⟨g1, g2, g3, g4⟩ := objOne_good he
            rw [g4] at he ⊢
            have l1 := PS.text_le S s
            have l2 := PS.blanks_le (S.text s) s
            have l3 := PS.blanks_le (((S.text s).blanks s).to (((S.text s).blanks s).at_ + 1)) s
            have l4 : ((S.text s).blanks s).at_ + 1 ≤ ((((S.text s).blanks s).to (((S.text s).blanks s).at_ + 1)).blanks s).at_ := l3
            refine ⟨by simp [i1], ?_, ?_, goodJL_snoc _ _ _ i4 (ih _ _ g1 (by omega) ?_ he)⟩
            · rw [List.nodup_append]
              refine ⟨i2, by simp, fun a ha b hb => ?_⟩
              rw [List.mem_singleton] at hb
              rintro rfl
              subst hb
              exact g2 ha
            · intro k hk
              rcases List.mem_append.1 hk with h | h
              · exact i3 k h
              · rw [List.mem_singleton] at h
                rw [h]
                exact textV_valid g1
            · show (S.text s).depth + _ = _
              rw [PS.text_depth, hSd]
              omega)
          hlt (by omega) (fun _ => ⟨rfl, .nil, (fun k h => by cases h), by simp [goodJL]⟩) hend
        obtain ⟨i1, i2, i3, i4⟩ := h1.1 h1.2
        rw [goodJ]
        exact ⟨by have := h1.2; omega, i1, i2, i3, i4⟩
      rw [if_neg n1] at hend ⊢
      by_cases n2 : c = 91
      · rw [if_pos n2] at hend ⊢
        have h1 := mem_inv2 (s := s) (e := 93) (one := listOne (valP s n)) (n := n) (st := st) (x := []) (I := fun x => st.depth + 1 ≤ 16 → goodJL x (d - 1)) (fun x S => valP_le s n S) (listOne_depth s n)
          (fun x S hSf hSd hSn hI he hdd => goodJL_snoc _ _ _ (hI hdd) (ih _ _ hSf hSn (by rw [hSd]; omega) he))
          hlt (by omega) (fun _ => by simp [goodJL]) hend
        rw [goodJ]
        exact ⟨by have := h1.2; omega, h1.1 h1.2⟩
      rw [if_neg n2] at hend ⊢
      by_cases n3 : c = 34
      · rw [if_pos n3] at hend ⊢
        rw [goodJ]
        exact textV_valid hend
      rw [if_neg n3] at hend ⊢
      split
      · simp [goodJ]
      · rename_i n4
        rw [if_neg n4] at hend
        split
        · simp [goodJ]
        · rename_i n5
          rw [if_neg n5] at hend
          split
          · simp [goodJ]
          · rename_i n6
            rw [if_neg n6] at hend
            rw [goodJ]
            exact numb_NumL hf hend
/-- What Parse answers with 0 is well-made. -/
theorem parseP_goodJ {s : List UInt8} (h : (bodyP s).2.fault = none) : goodJ (bodyP s).1 16 := valP_goodJ s _ _ 16 rfl (by omega) rfl h
end Go.Proofs.YtkbopeoaoakfnaaDoor

namespace Go.Proofs.YtkbopeoaoakfnaaDoor
open Go.RowKit
section
variable {α : Type} {s : List UInt8} {e : UInt8} {one : α → PS → α × PS} {n : Nat}
theorem loop_inv3 {I : α → Nat → Prop} (hle : ∀ x S, S.at_ ≤ (one x S).2.at_) (hmo : ∀ x a b, I x a → a ≤ b → I x b) (hstep : ∀ x S, S.fault = none → s.length - S.at_ < n → I x S.at_ → (one x S).2.fault = none → I (one x S).1 ((one x S).2.at_ + 1)) :
    ∀ (m : Nat) (x : α) (S : PS), S.fault = none → s.length - S.at_ < n → s.length - S.at_ < m → I x S.at_ → (loopP s e one m x S).2.fault = none → I (loopP s e one m x S).1 (loopP s e one m x S).2.at_
  | 0, _, _, _, _, hm, _, _ => absurd hm (Nat.not_lt_zero _)
  | m + 1, x, S, hf, hn, hm, hI, hend => by
    have h1 : (one x S).2.fault = none := by
      cases h : (one x S).2.fault with
      | none => rfl
      | some a =>
        have h2 := loopP_bad1 (s := s) (e := e) (m := m) (x := x) (S := S) (one := one) (by rw [h]; simp)
        rw [hend, h] at h2
        cases h2
    have hJ := hstep x S hf hn hI h1
    have h3 := hle x S
    have h4 := PS.blanks_le (one x S).2 s
    cases h2 : ((one x S).2.blanks s).sees s e with
    | true =>
      rw [loopP_end h1 h2, PS.next_yes h2]
      exact hmo _ _ _ hJ (by show _ ≤ ((one x S).2.blanks s).at_ + 1; omega)
    | false =>
      cases h5 : ((one x S).2.blanks s).sees s 44 with
      | false =>
        have h6 := loopP_bad2 (m := m) h1 h2 h5
        rw [hend] at h6
        cases h6
      | true =>
        have h7 := sees_lt h5
        have h8 := PS.blanks_le (((one x S).2.blanks s).to (((one x S).2.blanks s).at_ + 1)) s
        have h9 : ((one x S).2.blanks s).at_ + 1 ≤ ((((one x S).2.blanks s).to (((one x S).2.blanks s).at_ + 1)).blanks s).at_ := h8
        rw [loopP_next h1 h2 h5] at hend ⊢
        exact loop_inv3 hle hmo hstep m _ _ h1 (by omega) (by omega) (hmo _ _ _ hJ (by omega)) hend
theorem mem_inv3 {I : α → Nat → Prop} {st : PS} {x : α} (hle : ∀ x S, S.at_ ≤ (one x S).2.at_) (hmo : ∀ x a b, I x a → a ≤ b → I x b) (hstep : ∀ x S, S.fault = none → s.length - S.at_ < n → I x S.at_ → (one x S).2.fault = none → I (one x S).1 ((one x S).2.at_ + 1))
    (hlt : st.at_ < s.length) (hn : s.length - st.at_ ≤ n) (hI : I x (st.at_ + 1)) (hend : (memP s e one n x st).2.fault = none) : I (memP s e one n x st).1 (memP s e one n x st).2.at_ := by
  have ho := PS.open_le st s
  have hof : (st.open_ s).fault = none := by
    cases h : (st.open_ s).fault with
    | none => rfl
    | some a =>
      have h2 := memP_deep (s := s) (e := e) (one := one) (n := n) (x := x) h
      rw [hend] at h2
      cases h2
  unfold memP at hend ⊢
  by_cases h1 : (st.open_ s).sees s e = true
  · rw [if_pos h1, PS.next_yes h1]
    exact hmo _ _ _ hI (by show _ ≤ (st.open_ s).at_ + 1; omega)
  · rw [if_neg h1, if_pos hof] at hend ⊢
    exact loop_inv3 hle hmo hstep n x _ hof (by omega) (by omega) (hmo _ _ _ hI ho) hend
end
theorem prtL_snoc : ∀ (f : Bool) (l : List JV) (j : JV), (prtL f (l ++ [j])).length ≤ (prtL f l).length + 1 + (prt j).length
  | f, [], j => by
    rw [List.nil_append, prtL, prtL, prtL]
    cases f <;> simp <;> omega
  | f, a :: l, j => by
    have ih := prtL_snoc false l j
    rw [List.cons_append, prtL, prtL]
    simp only [List.length_append]
    omega
theorem prtO_snoc : ∀ (f : Bool) (ks : List (List UInt8)) (l : List JV) (k : List UInt8) (j : JV), ks.length = l.length → (prtO f (ks ++ [k]) (l ++ [j])).length ≤ (prtO f ks l).length + 1 + (quoteB k).length + 1 + (prt j).length
  | f, [], [], k, j, _ => by
    rw [List.nil_append, List.nil_append, prtO, prtO]
    simp only [List.headD_cons, List.tail_cons, List.length_append, List.length_cons]
    rw [prtO]
    cases f <;> simp <;> omega
  | f, a :: ks, b :: l, k, j, h => by
    have ih := prtO_snoc false ks l k j (by simpa using h)
    rw [List.cons_append, List.cons_append, prtO, prtO]
    simp only [List.headD_cons, List.tail_cons, List.length_append, List.length_cons]
    omega
theorem text_long {s : List UInt8} {st : PS} (h : (st.text s).fault = none) (_hlt : st.at_ ≤ s.length) : (quoteB (st.textV s)).length ≤ 24 * ((st.text s).at_ - st.at_) ∧ st.at_ + 2 ≤ (st.text s).at_ := by
  unfold PS.text at h
  split at h
  · rename_i h0
    have hm := PS.must_ok h0
    have h34 := sees_lt hm.2.2
    cases hx : st.textOf s with
    | mk o k' =>
      cases o with
      | none => rw [hx] at h; exact absurd h (PS.fail_ne _ _ _)
      | some y =>
        obtain ⟨e1, e2⟩ := text_ok h0 hx
        have h1 := text_len s _ _ [] y k' (by rw [hm.1]; omega) hx
        rw [hm.1] at h1
        have h2 := quoteB_le y
        have h3 : st.at_ + 1 + 1 ≤ k' := by
          have hx' : textT s (st.must s 34).at_ [] = (some y, k') := hx
          rw [textT_open] at hx'
          split at hx'
          · cases hx'
          · rename_i c hc
            have hle : ∀ a out, (st.must s 34).at_ + 1 ≤ a → textT s a out = (some y, k') → st.at_ + 1 + 1 ≤ k' := by
              intro a out ha he
              have h5 := textP_le s (s.length + 1) a out
              have h6 : textP s (s.length + 1) a out = (some y, k') := he
              rw [h6] at h5
              have h7 := hm.1
              show st.at_ + 1 + 1 ≤ k'
              have h8 : a ≤ k' := h5
              omega
            split at hx'
            · cases hx'
              rw [hm.1]
              omega
            · split at hx'
              · cases hx'
              · split at hx'
                · split at hx'
                  · cases hx'
                  · rename_i he
                    exact hle _ _ (by have := escP_le he; omega) hx'
                · split at hx'
                  · cases hx'
                  · rename_i hw
                    exact hle _ _ (by omega) hx'
        rw [e1, e2]
        show (quoteB y).length ≤ 24 * (k' - st.at_) ∧ st.at_ + 2 ≤ k'
        simp at h1
        omega
  · rename_i h0
    exact absurd h h0
theorem word_at_end (s : List UInt8) : ∀ (w : List UInt8) {st : PS}, (st.word s w).fault = none → (st.word s w).at_ = st.at_ + w.length
  | [], _, _ => rfl
  | c :: w, st, h => by
    unfold PS.word at h ⊢
    split at h
    · rename_i h0
      rw [if_pos h0, word_at_end s w h, (PS.must_ok h0).1, List.length_cons]
      omega
    · rename_i h0
      exact absurd h h0
/-- The text of what was parsed is no longer than 24 times its text. -/
theorem prt_bound (s : List UInt8) : ∀ (n : Nat) (st : PS), st.fault = none → s.length - st.at_ < n → (valP s n st).2.fault = none → (prt (valP s n st).1).length ≤ 24 * ((valP s n st).2.at_ - st.at_)
  | 0, _, _, h, _ => absurd h (Nat.not_lt_zero _)
  | n + 1, st, hf, hn, hend => by
    cases hc : s[st.at_]? with
    | none =>
      rw [valP_none hf hc] at hend
      have h1 : ((st.fail st.at_ 2).numb s).fault ≠ none := by rw [fail_numb (PS.fail_ne _ _ _)]; exact PS.fail_ne _ _ _
      exact absurd hend h1
    | some c =>
      have hlt : st.at_ < s.length := by
        rcases Nat.lt_or_ge st.at_ s.length with h' | h'
        · exact h'
        · rw [List.getElem?_eq_none h'] at hc; cases hc
      have ih := prt_bound s n
      rw [valP_some hf hc] at hend ⊢
      by_cases n1 : c = 123
      · rw [if_pos n1] at hend ⊢
        have h1 := mem_inv3 (s := s) (e := 125) (one := objOne s (valP s n)) (n := n) (st := st) (x := ([], [])) (I := fun x a => st.at_ + 1 ≤ a ∧ x.1.length = x.2.length ∧ (prtO true x.1 x.2).length + 2 ≤ 24 * (a - st.at_)) (objOne_le s n)
          (fun x a b h hb => ⟨by omega, h.2.1, by have := h.2.2; omega⟩)
          (fun x S hSf hSn hI he => by
            obtain ⟨i1, i2, i3⟩ := hI
            obtain ⟨g1, g2, g3, g4⟩ := objOne_good he
            rw [g4] at he ⊢
            have l1 := PS.text_le S s
            have l2 := PS.blanks_le (S.text s) s
            have l3 := PS.blanks_le (((S.text s).blanks s).to (((S.text s).blanks s).at_ + 1)) s
            have l4 : ((S.text s).blanks s).at_ + 1 ≤ ((((S.text s).blanks s).to (((S.text s).blanks s).at_ + 1)).blanks s).at_ := l3
            have l5 := sees_lt g3
            have hv := ih ((((S.text s).blanks s).to (((S.text s).blanks s).at_ + 1)).blanks s) g1 (by omega) he
            have hvl := valP_le s n ((((S.text s).blanks s).to (((S.text s).blanks s).at_ + 1)).blanks s)
            have ht := text_long g1 (by omega)
            have hsn := prtO_snoc true x.1 x.2 (S.textV s) (valP s n ((((S.text s).blanks s).to (((S.text s).blanks s).at_ + 1)).blanks s)).1 i2
            obtain ⟨E, hE⟩ : ∃ E, E = (valP s n ((((S.text s).blanks s).to (((S.text s).blanks s).at_ + 1)).blanks s)).2.at_ := ⟨_, rfl⟩
            rw [← hE] at hv hvl
            refine ⟨?_, ?_, ?_⟩
            · show _ ≤ _ + 1
              rw [← hE]
              omega
            · simp [i2]
            · show (prtO true (x.1 ++ [S.textV s]) (x.2 ++ [_])).length + 2 ≤ 24 * (_ + 1 - st.at_)
              rw [← hE]
              omega)
          hlt (by omega) ⟨Nat.le_refl _, rfl, by rw [prtO]; simp⟩ hend
        rw [prt]
        have h2 := h1.2.2
        simp only [List.length_cons, List.length_append, List.length_nil]
        show _ ≤ 24 * ((memP s 125 (objOne s (valP s n)) n ([], []) st).2.at_ - st.at_)
        omega
      rw [if_neg n1] at hend ⊢
      by_cases n2 : c = 91
      · rw [if_pos n2] at hend ⊢
        have h1 := mem_inv3 (s := s) (e := 93) (one := listOne (valP s n)) (n := n) (st := st) (x := []) (I := fun x a => st.at_ + 1 ≤ a ∧ (prtL true x).length + 2 ≤ 24 * (a - st.at_)) (fun x S => valP_le s n S)
          (fun x a b h hb => ⟨by omega, by have := h.2; omega⟩)
          (fun x S hSf hSn hI he => by
            have hv := ih _ hSf hSn he
            have hvl := valP_le s n S
            have hsn := prtL_snoc true x (valP s n S).1
            obtain ⟨E, hE⟩ : ∃ E, E = (valP s n S).2.at_ := ⟨_, rfl⟩
            rw [← hE] at hv hvl
            refine ⟨?_, ?_⟩
            · show _ ≤ (valP s n S).2.at_ + 1
              rw [← hE]
              have := hI.1
              omega
            · show (prtL true (x ++ [(valP s n S).1])).length + 2 ≤ 24 * ((valP s n S).2.at_ + 1 - st.at_)
              rw [← hE]
              have h1_ := hI.1
              have h2_ := hI.2
              omega)
          hlt (by omega) ⟨Nat.le_refl _, by rw [prtL]; simp⟩ hend
        rw [prt]
        have h2 := h1.2
        simp only [List.length_cons, List.length_append, List.length_nil]
        show _ ≤ 24 * ((memP s 93 (listOne (valP s n)) n [] st).2.at_ - st.at_)
        omega
      rw [if_neg n2] at hend ⊢
      by_cases n3 : c = 34
      · rw [if_pos n3] at hend ⊢
        rw [prt]
        exact (text_long hend (by omega)).1
      rw [if_neg n3] at hend ⊢
      by_cases n4 : c = 116
      · rw [if_pos n4] at hend ⊢
        have := word_at_end s _ hend
        rw [prt]
        show (Lib.formatBool true).length ≤ 24 * ((st.word s [116, 114, 117, 101]).at_ - st.at_)
        rw [this]
        show 4 ≤ 24 * (st.at_ + 4 - st.at_)
        omega
      rw [if_neg n4] at hend ⊢
      by_cases n5 : c = 102
      · rw [if_pos n5] at hend ⊢
        have := word_at_end s _ hend
        rw [prt]
        show (Lib.formatBool false).length ≤ 24 * ((st.word s [102, 97, 108, 115, 101]).at_ - st.at_)
        rw [this]
        show 5 ≤ 24 * (st.at_ + 5 - st.at_)
        omega
      rw [if_neg n5] at hend ⊢
      by_cases n6 : c = 110
      · rw [if_pos n6] at hend ⊢
        have := word_at_end s _ hend
        rw [prt]
        show 4 ≤ 24 * ((st.word s [110, 117, 108, 108]).at_ - st.at_)
        rw [this]
        show 4 ≤ 24 * (st.at_ + 4 - st.at_)
        omega
      rw [if_neg n6] at hend ⊢
      rw [prt]
      show (st.numS s).length ≤ 24 * ((st.numb s).at_ - st.at_)
      unfold PS.numS
      rw [List.length_take]
      omega
theorem parse_bound {s : List UInt8} (h : (bodyP s).2.fault = none) : (prt (bodyP s).1).length ≤ 24 * s.length := by
  have h1 := prt_bound s (s.length + 1) (startP s) rfl (by omega) h
  have h2 := (bodyP_FE s).1
  have h3 : (prt (bodyP s).1).length ≤ 24 * ((bodyP s).2.at_ - (startP s).at_) := h1
  omega
end Go.Proofs.YtkbopeoaoakfnaaDoor
