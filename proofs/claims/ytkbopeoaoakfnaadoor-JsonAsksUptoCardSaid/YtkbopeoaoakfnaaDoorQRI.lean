/- The texts RP2 RP3 of this work, merged by wip/merge.py. No conditions. -/
import Derived.Test.YtkbopeoaoakfnaaDoorQRH
import Derived.Test.YtkbopeoaoakfnaaDoorQP
namespace Go.Proofs.YtkbopeoaoakfnaaDoor
open Go.RowKit
/-- Whole UTF-8. -/
inductive ValidU : List UInt8 → Prop where
  | nil : ValidU []
  | cons (r : Nat) (t : List UInt8) (hr : r < 55296 ∨ (57343 < r ∧ r ≤ 1114111)) (h : ValidU t) : ValidU (Lib.encodeRune (r : Int) ++ t)
theorem ValidU.append {a b : List UInt8} (h : ValidU a) (h2 : ValidU b) : ValidU (a ++ b) := by
  induction h with
  | nil => exact h2
  | cons r t hr _ ih => rw [List.append_assoc]; exact .cons r _ hr ih
theorem ValidU.one {r : Nat} (hr : r < 55296 ∨ (57343 < r ∧ r ≤ 1114111)) : ValidU (Lib.encodeRune (r : Int)) := by
  have := ValidU.cons r [] hr .nil
  rwa [List.append_nil] at this
theorem ValidU.runes {x : List UInt8} (h : ValidU x) : runesD x = x := by
  induction h with
  | nil => simp [runesD, Lib.mapD, Lib.mapGoD]
  | cons r t hr _ ih =>
    have hd := decode_enc r hr t
    obtain ⟨c, l, he, _⟩ := enc_head r hr
    rw [runesD_step _ (by rw [he]; simp), hd]
    show Lib.encodeRune (r : Int) ++ runesD (List.drop (Lib.encodeRune (r : Int)).length _) = _
    rw [List.drop_left, ih]
theorem quote_rest : ∀ (n : Nat) (s S out : List UInt8) (k : Nat) (rest : List UInt8), s.length ≤ n → S.drop k = quoteD s.length s ++ 34 :: rest → textT S k out = (some (out ++ runesD s), k + (quoteD s.length s).length + 1)
  | n, s, S, out, k, rest, hn, hS => by
    by_cases hne : s = []
    · subst hne
      have h0 : S[k]? = some 34 := by
        have := List.getElem?_drop (xs := S) (i := k) (j := 0)
        rw [hS] at this
        simpa [quoteD] using this.symm
      rw [textT_open, h0]
      dsimp only
      rw [if_pos rfl]
      simp [runesD, Lib.mapD, Lib.mapGoD, quoteD]
    · have hl : 0 < s.length := List.length_pos_iff.2 hne
      have hw := Lib.decodeL_width s
      rw [quoteD_step s hne, List.append_assoc] at hS
      rw [quote_step (decL_valid s) hS, runesD_step s hne, ← List.append_assoc]
      cases n with
      | zero => omega
      | succ n =>
        rw [quote_rest n (s.drop (Lib.decodeL s).2) S _ _ rest (by rw [List.length_drop]; omega) (by rw [← List.drop_drop, hS, List.drop_left]), quoteD_step s hne, List.length_append]
        simp only [Prod.mk.injEq, true_and]
        omega
/-- x stands in s from a to b. -/
def Seg (s : List UInt8) (a b : Nat) (x : List UInt8) : Prop := s.drop a = x ++ s.drop b ∧ b = a + x.length
theorem Seg.nil (s : List UInt8) (a : Nat) : Seg s a a [] := ⟨rfl, rfl⟩
theorem Seg.trans {s x y : List UInt8} {a b c : Nat} (h : Seg s a b x) (h2 : Seg s b c y) : Seg s a c (x ++ y) := ⟨by rw [h.1, h2.1, List.append_assoc], by rw [h2.2, h.2, List.length_append]; omega⟩
theorem Seg.take {s x : List UInt8} {a b : Nat} (h : Seg s a b x) : (s.drop a).take (b - a) = x := by
  rw [h.1, h.2, Nat.add_sub_cancel_left, List.take_left]
theorem Seg.of {s x r : List UInt8} {a : Nat} (h : s.drop a = x ++ r) : Seg s a (a + x.length) x ∧ s.drop (a + x.length) = r := by
  have h1 : s.drop (a + x.length) = r := by rw [← List.drop_drop, h, List.drop_left]
  exact ⟨⟨by rw [h1, h], rfl⟩, h1⟩
theorem drop_head {s : List UInt8} {a : Nat} {c : UInt8} {t : List UInt8} (h : s.drop a = c :: t) : s[a]? = some c ∧ s.drop (a + 1) = t ∧ a < s.length := by
  have h1 : s[a]? = some c := by
    have := List.getElem?_drop (xs := s) (i := a) (j := 0)
    rw [h] at this
    simpa using this.symm
  refine ⟨h1, ?_, ?_⟩
  · rw [← List.drop_drop, h]; rfl
  · rcases Nat.lt_or_ge a s.length with h' | h'
    · exact h'
    · rw [List.getElem?_eq_none h'] at h1; cases h1
section
variable {s : List UInt8} {st : PS}
theorem sees_head {c : UInt8} {t : List UInt8} (h : s.drop st.at_ = c :: t) : st.sees s c = true := by unfold PS.sees; rw [(drop_head h).1]; simp
theorem sees_not {d : UInt8} (h : ∀ c t, s.drop st.at_ = c :: t → c ≠ d) : st.sees s d = false := by
  unfold PS.sees
  cases hc : s[st.at_]? with
  | none => rfl
  | some c =>
    obtain ⟨_, tl, ht⟩ := drop_cons hc
    have := h c tl ht
    simpa using this
theorem seg_sees {c : UInt8} (h : st.sees s c = true) : Seg s st.at_ (st.at_ + 1) [c] := by
  unfold PS.sees at h
  have hc : s[st.at_]? = some c := by simpa using h
  obtain ⟨_, tl, ht⟩ := drop_cons hc
  exact ⟨by rw [(drop_head ht).2.1, ht]; rfl, rfl⟩
theorem to_self (st : PS) : st.to st.at_ = st := rfl
theorem blanks_none (h : ∀ c t, s.drop st.at_ = c :: t → blankB c = false) : st.blanks s = st := by
  have h1 : runB blankB (s.drop st.at_) = 0 := by
    unfold runB
    cases hd : s.drop st.at_ with
    | nil => rfl
    | cons c t => rw [List.takeWhile_cons, h c t hd]; rfl
  unfold PS.blanks
  rw [h1]
  exact to_self st
theorem text_quote {x rest : List UInt8} (hf : st.fault = none) (hx : ValidU x) (hS : s.drop st.at_ = quoteB x ++ rest) : st.text s = st.to (st.at_ + (quoteB x).length) ∧ st.textV s = x := by
  have hS' : s.drop st.at_ = 34 :: (quoteD x.length x ++ 34 :: rest) := by rw [hS]; unfold quoteB; simp
  have hm := must_yes (sees_head hS')
  have h1 : st.textOf s = (some x, st.at_ + 1 + (quoteD x.length x).length + 1) := by
    unfold PS.textOf
    rw [hm]
    show textT s (st.at_ + 1) [] = _
    rw [quote_rest x.length x s [] (st.at_ + 1) rest (Nat.le_refl _) (drop_head hS').2.1, List.nil_append, hx.runes]
  have h2 := text_ok (by rw [hm]; exact hf) h1
  refine ⟨?_, h2.2⟩
  rw [h2.1, hm]
  unfold quoteB
  show PS.mk _ _ _ = PS.mk _ _ _
  congr 1
  simp
  omega
theorem word_there : ∀ (w : List UInt8) {rest : List UInt8} {st : PS}, st.fault = none → s.drop st.at_ = w ++ rest → st.word s w = st.to (st.at_ + w.length)
  | [], _, _, _, _ => rfl
  | c :: w, rest, st, hf, hS => by
    have hS' : s.drop st.at_ = c :: (w ++ rest) := hS
    have hm : st.must s c = st.to (st.at_ + 1) := by unfold PS.must; rw [if_pos (sees_head hS')]; rfl
    unfold PS.word
    rw [hm, if_pos (show (st.to (st.at_ + 1)).fault = none from hf), word_there w (st := st.to (st.at_ + 1)) hf (drop_head hS').2.1]
    show PS.mk _ _ _ = PS.mk _ _ _
    congr 1
    show st.at_ + 1 + w.length = st.at_ + (w.length + 1)
    omega
theorem tw_all {p : UInt8 → Bool} : ∀ (l : List UInt8) (c : UInt8), c ∈ l.takeWhile p → p c = true
  | [], _, h => by cases h
  | a :: l, c, h => by
    rw [List.takeWhile_cons] at h
    split at h
    · rename_i ha
      rcases List.mem_cons.1 h with rfl | h2
      · exact ha
      · exact tw_all l c h2
    · cases h
theorem drop_run {p : UInt8 → Bool} : ∀ l : List UInt8, l.drop (runB p l) = l.dropWhile p
  | [] => rfl
  | a :: l => by
    unfold runB
    rw [List.takeWhile_cons, List.dropWhile_cons]
    split
    · exact drop_run l
    · rfl
/-- One or more digits. -/
def DigL (d : List UInt8) : Prop := d ≠ [] ∧ ∀ c ∈ d, digitB c = true
theorem run_app {d rest : List UInt8} (hd : ∀ c ∈ d, digitB c = true) (hr : ∀ c t, rest = c :: t → digitB c = false) : runB digitB (d ++ rest) = d.length := by
  unfold runB
  rw [List.takeWhile_append_of_pos (by simpa using hd)]
  cases rest with
  | nil => simp
  | cons c t => rw [List.takeWhile_cons, hr c t rfl]; simp
theorem digits_there {d rest : List UInt8} (hd : DigL d) (hS : s.drop st.at_ = d ++ rest) (hr : ∀ c t, rest = c :: t → digitB c = false) : st.digits s = st.to (st.at_ + d.length) := by
  have h1 := run_app hd.2 hr
  have h2 : d.length ≠ 0 := fun e => hd.1 (List.eq_nil_of_length_eq_zero e)
  unfold PS.digits
  rw [hS, h1, if_neg h2]
theorem digits_seg (_hf : st.fault = none) (h : (st.digits s).fault = none) : ∃ d, DigL d ∧ Seg s st.at_ (st.digits s).at_ d ∧ (st.digits s).at_ = st.at_ + d.length := by
  unfold PS.digits at h ⊢
  split
  · rename_i h0
    rw [if_pos h0] at h
    exact absurd h (PS.fail_ne _ _ _)
  · rename_i h0
    refine ⟨(s.drop st.at_).takeWhile digitB, ⟨fun e => h0 (by unfold runB; rw [e]; rfl), fun c hc => tw_all _ c hc⟩, ⟨?_, rfl⟩, rfl⟩
    show s.drop st.at_ = _ ++ s.drop (st.at_ + runB digitB (s.drop st.at_))
    have h1 := List.takeWhile_append_dropWhile (p := digitB) (l := s.drop st.at_)
    have h2 : s.drop (st.at_ + runB digitB (s.drop st.at_)) = (s.drop st.at_).dropWhile digitB := by
      rw [← List.drop_drop, drop_run]
    rw [h2, h1]
/-- The parts of a number: sign and whole part, fraction, exponent. -/
def NumI (x : List UInt8) : Prop := ∃ sg ip : List UInt8, x = sg ++ ip ∧ (sg = [] ∨ sg = [45]) ∧ (ip = [48] ∨ (DigL ip ∧ ip.head? ≠ some 48))
def NumF (x : List UInt8) : Prop := x = [] ∨ ∃ d, x = 46 :: d ∧ DigL d
def NumE (x : List UInt8) : Prop := x = [] ∨ ∃ (c : UInt8) (sg d : List UInt8), x = c :: (sg ++ d) ∧ (c = 101 ∨ c = 69) ∧ (sg = [] ∨ sg = [43] ∨ sg = [45]) ∧ DigL d
/-- A number's text. -/
def NumL (x : List UInt8) : Prop := ∃ a b c, x = a ++ (b ++ c) ∧ NumI a ∧ NumF b ∧ NumE c
theorem digit_ne {c d : UInt8} (h : digitB c = true) (hd : digitB d = false) : c ≠ d := fun e => by rw [e, hd] at h; cases h
theorem DigL.head {d : List UInt8} (h : DigL d) : ∃ c t, d = c :: t ∧ digitB c = true := by
  match d, h with
  | [], h => exact absurd rfl h.1
  | c :: t, h => exact ⟨c, t, rfl, h.2 c List.mem_cons_self⟩
theorem numA_seg (hf : st.fault = none) (h : (st.numA s).fault = none) : ∃ x, NumI x ∧ Seg s st.at_ (st.numA s).at_ x := by
  have key : ∀ T : PS, T.fault = none → (if T.sees s 48 then T.next s 48 else T.digits s).fault = none → ∃ ip, (ip = [48] ∨ (DigL ip ∧ ip.head? ≠ some 48)) ∧ Seg s T.at_ (if T.sees s 48 then T.next s 48 else T.digits s).at_ ip := by
    intro T hT hE
    cases h48 : T.sees s 48 with
    | true =>
      rw [if_pos rfl, PS.next_yes h48]
      exact ⟨[48], .inl rfl, seg_sees h48⟩
    | false =>
      rw [h48, if_neg (by decide)] at hE
      rw [if_neg (by decide)]
      obtain ⟨d, hd, hs, ha⟩ := digits_seg hT hE
      refine ⟨d, .inr ⟨hd, fun e => ?_⟩, hs⟩
      obtain ⟨c, t, he, _⟩ := hd.head
      rw [he] at e
      have hc : c = 48 := by simpa using e
      have h3 : s.drop T.at_ = 48 :: (t ++ s.drop (T.digits s).at_) := by rw [hs.1, he, hc]; rfl
      rw [sees_head h3] at h48
      cases h48
  unfold PS.numA at h ⊢
  cases h45 : st.sees s 45 with
  | true =>
    rw [PS.next_yes h45] at h ⊢
    obtain ⟨ip, h1, h2⟩ := key (st.to (st.at_ + 1)) hf h
    exact ⟨[45] ++ ip, ⟨[45], ip, rfl, .inr rfl, h1⟩, (seg_sees h45).trans h2⟩
  | false =>
    rw [PS.next_no h45] at h ⊢
    obtain ⟨ip, h1, h2⟩ := key st hf h
    exact ⟨ip, ⟨[], ip, rfl, .inl rfl, h1⟩, h2⟩
theorem numB_seg (hf : st.fault = none) (h : (st.numB s).fault = none) : ∃ x, NumF x ∧ Seg s st.at_ (st.numB s).at_ x := by
  unfold PS.numB at h ⊢
  by_cases h46 : st.fault = none ∧ st.sees s 46 = true
  · rw [if_pos h46] at h ⊢
    rw [PS.next_yes h46.2] at h ⊢
    obtain ⟨d, hd, hs, _⟩ := digits_seg (st := st.to (st.at_ + 1)) hf h
    exact ⟨[46] ++ d, .inr ⟨d, rfl, hd⟩, (seg_sees h46.2).trans hs⟩
  · rw [if_neg h46]
    exact ⟨[], .inl rfl, Seg.nil _ _⟩
theorem numD_seg (hf : st.fault = none) (h : (st.numD s).fault = none) : ∃ sg d, (sg = [] ∨ sg = [43] ∨ sg = [45]) ∧ DigL d ∧ Seg s st.at_ (st.numD s).at_ (sg ++ d) := by
  unfold PS.numD at h ⊢
  cases h43 : st.sees s 43 with
  | true =>
    rw [h43, if_pos rfl, PS.next_yes h43] at h
    rw [if_pos rfl, PS.next_yes h43]
    obtain ⟨d, hd, hs, _⟩ := digits_seg (st := st.to (st.at_ + 1)) hf h
    exact ⟨[43], d, .inr (.inl rfl), hd, (seg_sees h43).trans hs⟩
  | false =>
    rw [h43, if_neg (by decide)] at h
    rw [if_neg (by decide)]
    cases h45 : st.sees s 45 with
    | true =>
      rw [PS.next_yes h45] at h ⊢
      obtain ⟨d, hd, hs, _⟩ := digits_seg (st := st.to (st.at_ + 1)) hf h
      exact ⟨[45], d, .inr (.inr rfl), hd, (seg_sees h45).trans hs⟩
    | false =>
      rw [PS.next_no h45] at h ⊢
      obtain ⟨d, hd, hs, _⟩ := digits_seg hf h
      exact ⟨[], d, .inl rfl, hd, hs⟩
theorem numC_seg (hf : st.fault = none) (h : (st.numC s).fault = none) : ∃ x, NumE x ∧ Seg s st.at_ (st.numC s).at_ x := by
  unfold PS.numC at h ⊢
  by_cases h1 : st.fault = none ∧ st.sees s 101 = true
  · rw [if_pos h1] at h ⊢
    rw [PS.next_yes h1.2] at h ⊢
    obtain ⟨sg, d, hsg, hd, hs⟩ := numD_seg (st := st.to (st.at_ + 1)) hf h
    exact ⟨[101] ++ (sg ++ d), .inr ⟨101, sg, d, rfl, .inl rfl, hsg, hd⟩, (seg_sees h1.2).trans hs⟩
  · rw [if_neg h1] at h ⊢
    by_cases h2 : st.fault = none ∧ st.sees s 69 = true
    · rw [if_pos h2] at h ⊢
      rw [PS.next_yes h2.2] at h ⊢
      obtain ⟨sg, d, hsg, hd, hs⟩ := numD_seg (st := st.to (st.at_ + 1)) hf h
      exact ⟨[69] ++ (sg ++ d), .inr ⟨69, sg, d, rfl, .inr rfl, hsg, hd⟩, (seg_sees h2.2).trans hs⟩
    · rw [if_neg h2]
      exact ⟨[], .inl rfl, Seg.nil _ _⟩
/-- What is read as a number is one. -/
theorem numb_NumL (hf : st.fault = none) (h : (st.numb s).fault = none) : NumL (st.numS s) := by
  have hA : (st.numA s).fault = none := by
    cases hx : (st.numA s).fault with
    | none => rfl
    | some a =>
      have h1 := numBC_fault (st := st.numA s) (s := s) (by rw [hx]; simp)
      unfold PS.numb at h
      rw [h1, hx] at h
      cases h
  have hB : ((st.numA s).numB s).fault = none := by
    cases hx : ((st.numA s).numB s).fault with
    | none => rfl
    | some a =>
      have h1 := numC_fault (st := (st.numA s).numB s) (s := s) (by rw [hx]; simp)
      unfold PS.numb at h
      rw [h1, hx] at h
      cases h
  obtain ⟨a, ha, sa⟩ := numA_seg hf hA
  obtain ⟨b, hb, sb⟩ := numB_seg hA hB
  obtain ⟨c, hc, sc⟩ := numC_seg hB h
  refine ⟨a, b, c, ?_, ha, hb, hc⟩
  exact (sa.trans (sb.trans sc)).take
/-- What stands behind a number: nothing that goes on with it. -/
def EndN (rest : List UInt8) : Prop := ∀ c t, rest = c :: t → digitB c = false ∧ c ≠ 46 ∧ c ≠ 101 ∧ c ≠ 69
theorem numA_there {x rest : List UInt8} (hx : NumI x) (hS : s.drop st.at_ = x ++ rest) (hr : ∀ c t, rest = c :: t → digitB c = false) : st.numA s = st.to (st.at_ + x.length) := by
  obtain ⟨sg, ip, rfl, hsg, hip⟩ := hx
  have key : ∀ T : PS, s.drop T.at_ = ip ++ rest → (if T.sees s 48 then T.next s 48 else T.digits s) = T.to (T.at_ + ip.length) := by
    intro T hT
    rcases hip with rfl | ⟨hd, hh⟩
    · have h48 : T.sees s 48 = true := sees_head (t := rest) hT
      rw [h48, if_pos rfl, PS.next_yes h48]
      rfl
    · have h48 : T.sees s 48 = false := sees_not fun c t e => by
        obtain ⟨c', t', he, _⟩ := hd.head
        rw [hT, he] at e
        injection e with e1 e2
        rintro rfl
        exact hh (by rw [he, e1]; rfl)
      rw [h48, if_neg (by decide)]
      exact digits_there hd hT hr
  unfold PS.numA
  rcases hsg with rfl | rfl
  · have h45 : st.sees s 45 = false := sees_not fun c t e => by
      rcases hip with rfl | ⟨hd, _⟩
      · rw [hS] at e; injection e with e1 e2; rw [← e1]; decide
      · obtain ⟨c', t', he, hc⟩ := hd.head
        rw [hS, he] at e
        injection e with e1 e2
        rw [← e1]
        exact digit_ne hc (by decide)
    rw [PS.next_no h45]
    exact key st hS
  · have h45 : st.sees s 45 = true := sees_head (t := ip ++ rest) hS
    rw [PS.next_yes h45]
    have h1 := key (st.to (st.at_ + 1)) (drop_head (t := ip ++ rest) hS).2.1
    rw [h1]
    show PS.mk _ _ _ = PS.mk _ _ _
    congr 1
    show st.at_ + 1 + ip.length = st.at_ + ([45] ++ ip).length
    simp
    omega
theorem numB_there {x rest : List UInt8} (hf : st.fault = none) (hx : NumF x) (hS : s.drop st.at_ = x ++ rest) (hr : ∀ c t, rest = c :: t → digitB c = false ∧ c ≠ 46) : st.numB s = st.to (st.at_ + x.length) := by
  unfold PS.numB
  rcases hx with rfl | ⟨d, rfl, hd⟩
  · have h46 : st.sees s 46 = false := sees_not fun c t e => (hr c t (by rw [← e, hS]; rfl)).2
    rw [if_neg (by rintro ⟨_, h⟩; rw [h46] at h; cases h)]
    rfl
  · have h46 : st.sees s 46 = true := sees_head (t := d ++ rest) hS
    rw [if_pos ⟨hf, h46⟩, PS.next_yes h46, digits_there (st := st.to (st.at_ + 1)) hd (drop_head (t := d ++ rest) hS).2.1 (fun c t e => (hr c t e).1)]
    show PS.mk _ _ _ = PS.mk _ _ _
    congr 1
    show st.at_ + 1 + d.length = st.at_ + (d.length + 1)
    omega
theorem numD_there {sg d rest : List UInt8} (hsg : sg = [] ∨ sg = [43] ∨ sg = [45]) (hd : DigL d) (hS : s.drop st.at_ = sg ++ d ++ rest) (hr : ∀ c t, rest = c :: t → digitB c = false) : st.numD s = st.to (st.at_ + (sg ++ d).length) := by
  obtain ⟨c', t', he, hc'⟩ := hd.head
  unfold PS.numD
  rcases hsg with rfl | rfl | rfl
  · have h1 : st.sees s 43 = false := sees_not fun c t e => by
      rw [hS, he] at e
      injection e with e1 e2
      rw [← e1]
      exact digit_ne hc' (by decide)
    have h2 : st.sees s 45 = false := sees_not fun c t e => by
      rw [hS, he] at e
      injection e with e1 e2
      rw [← e1]
      exact digit_ne hc' (by decide)
    rw [h1, if_neg (by decide), PS.next_no h2]
    exact digits_there hd hS hr
  · have h1 : st.sees s 43 = true := sees_head (t := d ++ rest) hS
    rw [h1, if_pos rfl, PS.next_yes h1, digits_there (st := st.to (st.at_ + 1)) hd (drop_head (t := d ++ rest) hS).2.1 hr]
    show PS.mk _ _ _ = PS.mk _ _ _
    congr 1
    show st.at_ + 1 + d.length = st.at_ + (d.length + 1)
    omega
  · have h1 : st.sees s 43 = false := sees_not fun c t e => by
      rw [hS] at e
      injection e with e1 e2
      rw [← e1]; decide
    have h2 : st.sees s 45 = true := sees_head (t := d ++ rest) hS
    rw [h1, if_neg (by decide), PS.next_yes h2, digits_there (st := st.to (st.at_ + 1)) hd (drop_head (t := d ++ rest) hS).2.1 hr]
    show PS.mk _ _ _ = PS.mk _ _ _
    congr 1
    show st.at_ + 1 + d.length = st.at_ + (d.length + 1)
    omega
theorem numC_there {x rest : List UInt8} (hf : st.fault = none) (hx : NumE x) (hS : s.drop st.at_ = x ++ rest) (hr : EndN rest) : st.numC s = st.to (st.at_ + x.length) := by
  unfold PS.numC
  rcases hx with rfl | ⟨c, sg, d, rfl, hc, hsg, hd⟩
  · have h1 : st.sees s 101 = false := sees_not fun c t e => (hr c t (by rw [← e, hS]; rfl)).2.2.1
    have h2 : st.sees s 69 = false := sees_not fun c t e => (hr c t (by rw [← e, hS]; rfl)).2.2.2
    rw [if_neg (by rintro ⟨_, h⟩; rw [h1] at h; cases h), if_neg (by rintro ⟨_, h⟩; rw [h2] at h; cases h)]
    rfl
  · have hS' : s.drop st.at_ = c :: (sg ++ d ++ rest) := hS
    have hgo : ∀ T : PS, T = st.to (st.at_ + 1) → T.numD s = st.to (st.at_ + (c :: (sg ++ d)).length) := by
      rintro T rfl
      rw [numD_there (st := st.to (st.at_ + 1)) hsg hd (drop_head hS').2.1 (fun c t e => (hr c t e).1)]
      show PS.mk _ _ _ = PS.mk _ _ _
      congr 1
      show st.at_ + 1 + (sg ++ d).length = st.at_ + ((sg ++ d).length + 1)
      omega
    rcases hc with rfl | rfl
    · have h1 : st.sees s 101 = true := sees_head hS'
      rw [if_pos ⟨hf, h1⟩, PS.next_yes h1]
      exact hgo _ rfl
    · have h1 : st.sees s 101 = false := sees_not fun c t e => by rw [hS'] at e; injection e with e1 e2; rw [← e1]; decide
      have h2 : st.sees s 69 = true := sees_head hS'
      rw [if_neg (by rintro ⟨_, h⟩; rw [h1] at h; cases h), if_pos ⟨hf, h2⟩, PS.next_yes h2]
      exact hgo _ rfl
theorem EndN.frac {c rest : List UInt8} (hr : EndN rest) (hc : NumE c) : ∀ d t, c ++ rest = d :: t → digitB d = false ∧ d ≠ 46 := by
  intro d t e
  rcases hc with rfl | ⟨x, sg, y, rfl, hx, _⟩
  · exact ⟨(hr d t e).1, (hr d t e).2.1⟩
  · injection e with e1 e2
    rw [← e1]
    rcases hx with rfl | rfl <;> exact ⟨by decide, by decide⟩
/-- A number's text is read as it is. -/
theorem num_there {x rest : List UInt8} (hf : st.fault = none) (hx : NumL x) (hS : s.drop st.at_ = x ++ rest) (hr : EndN rest) : st.numb s = st.to (st.at_ + x.length) ∧ st.numS s = x := by
  obtain ⟨a, b, c, rfl, ha, hb, hc⟩ := hx
  have hS1 : s.drop st.at_ = a ++ (b ++ (c ++ rest)) := by rw [hS]; simp
  have h1 : ∀ d t, b ++ (c ++ rest) = d :: t → digitB d = false := by
    intro d t e
    rcases hb with rfl | ⟨y, rfl, _⟩
    · exact (EndN.frac hr hc d t e).1
    · injection e with e1 e2
      rw [← e1]; decide
  have hA := numA_there ha hS1 h1
  have hS2 := (Seg.of hS1).2
  have hB := numB_there (st := st.to (st.at_ + a.length)) hf hb hS2 (EndN.frac hr hc)
  have hS3 := (Seg.of hS2).2
  have hC := numC_there (st := (st.to (st.at_ + a.length)).to (st.at_ + a.length + b.length)) hf hc hS3 hr
  have hN : st.numb s = st.to (st.at_ + (a ++ (b ++ c)).length) := by
    unfold PS.numb
    rw [hA, hB]
    show ((st.to (st.at_ + a.length)).to (st.at_ + a.length + b.length)).numC s = _
    rw [hC]
    show PS.mk _ _ _ = PS.mk _ _ _
    congr 1
    show st.at_ + a.length + b.length + c.length = _
    simp
    omega
  refine ⟨hN, ?_⟩
  unfold PS.numS
  rw [hN]
  exact (Seg.of hS).1.take
/-- How a number's text begins. -/
theorem NumL.head {x : List UInt8} (hx : NumL x) : ∃ c t, x = c :: t ∧ (digitB c = true ∨ c = 45) := by
  obtain ⟨a, b, c, rfl, ⟨sg, ip, rfl, hsg, hip⟩, _, _⟩ := hx
  have hi : ∃ c t, ip = c :: t ∧ digitB c = true := by
    rcases hip with rfl | ⟨hd, _⟩
    · exact ⟨48, [], rfl, by decide⟩
    · exact hd.head
  obtain ⟨d, t, rfl, hd⟩ := hi
  rcases hsg with rfl | rfl
  · exact ⟨d, _, rfl, .inl hd⟩
  · exact ⟨45, _, rfl, .inr rfl⟩
end
end Go.Proofs.YtkbopeoaoakfnaaDoor

namespace Go.Proofs.YtkbopeoaoakfnaaDoor
open Go.RowKit
mutual
/-- A well-made value, of at most so many lists and objects in one another. -/
def goodJ : JV → Nat → Prop
  | .nil, _ => False
  | .null, _ => True
  | .bool _, _ => True
  | .num x, _ => NumL x
  | .text x, _ => ValidU x
  | .list l, d => 1 ≤ d ∧ goodJL l (d - 1)
  | .obj ks l, d => 1 ≤ d ∧ ks.length = l.length ∧ ks.Nodup ∧ (∀ k ∈ ks, ValidU k) ∧ goodJL l (d - 1)
def goodJL : List JV → Nat → Prop
  | [], _ => True
  | j :: l, d => goodJ j d ∧ goodJL l d
end
theorem goodJL_mem : ∀ {l : List JV} {d : Nat}, goodJL l d → ∀ j ∈ l, goodJ j d
  | [], _, _, _, h => by cases h
  | a :: l, d, h, j, hj => by
    rw [goodJL] at h
    rcases List.mem_cons.1 hj with rfl | h2
    · exact h.1
    · exact goodJL_mem h.2 j h2
theorem num_c : ∀ c : UInt8, (digitB c = true ∨ c = 45) → blankB c = false ∧ c ≠ 93 ∧ c ≠ 125 ∧ c ≠ 123 ∧ c ≠ 91 ∧ c ≠ 34 ∧ c ≠ 116 ∧ c ≠ 102 ∧ c ≠ 110 := by
  intro c h
  have h1 : ∀ d : UInt8, digitB d = false → d ≠ 45 → c ≠ d := by
    rintro d h1 h2 rfl
    rcases h with h | h
    · rw [h1] at h; cases h
    · exact h2 h
  refine ⟨?_, h1 _ (by decide) (by decide), h1 _ (by decide) (by decide), h1 _ (by decide) (by decide), h1 _ (by decide) (by decide), h1 _ (by decide) (by decide), h1 _ (by decide) (by decide), h1 _ (by decide) (by decide), h1 _ (by decide) (by decide)⟩
  unfold blankB
  simp [h1 32 (by decide) (by decide), h1 9 (by decide) (by decide), h1 10 (by decide) (by decide), h1 13 (by decide) (by decide)]
/-- How a value's text begins. -/
theorem prt_head {j : JV} {d : Nat} (h : goodJ j d) : ∃ c t, prt j = c :: t ∧ blankB c = false ∧ c ≠ 93 ∧ c ≠ 125 := by
  cases j with
  | nil => simp [goodJ] at h
  | null => exact ⟨110, [117, 108, 108], by rw [prt], by decide, by decide, by decide⟩
  | bool b => cases b with
    | true => exact ⟨116, [114, 117, 101], by rw [prt]; rfl, by decide, by decide, by decide⟩
    | false => exact ⟨102, [97, 108, 115, 101], by rw [prt]; rfl, by decide, by decide, by decide⟩
  | num x =>
    rw [goodJ] at h
    obtain ⟨c, t, rfl, hc⟩ := h.head
    have h2 := num_c c hc
    exact ⟨c, t, by rw [prt], h2.1, h2.2.1, h2.2.2.1⟩
  | text x => exact ⟨34, _, by rw [prt]; rfl, by decide, by decide, by decide⟩
  | list l => exact ⟨91, _, by rw [prt], by decide, by decide, by decide⟩
  | obj ks l => exact ⟨123, _, by rw [prt], by decide, by decide, by decide⟩
/-- What stands behind a value. -/
def EndV (rest : List UInt8) : Prop := ∀ c t, rest = c :: t → c = 44 ∨ c = 93 ∨ c = 125
theorem EndV.num {rest : List UInt8} (h : EndV rest) : EndN rest := fun c t e => by
  rcases h c t e with rfl | rfl | rfl <;> exact ⟨by decide, by decide, by decide, by decide⟩
theorem EndV.blank {rest : List UInt8} (h : EndV rest) : ∀ c t, rest = c :: t → blankB c = false := fun c t e => by
  rcases h c t e with rfl | rfl | rfl <;> decide
section
variable {s : List UInt8} {n : Nat} {st S : PS}
theorem endv_list {l : List JV} {rest : List UInt8} : EndV (prtL false l ++ 93 :: rest) := by
  intro c t e
  cases l with
  | nil =>
    rw [prtL] at e
    injection e with e1 _
    exact .inr (.inl e1.symm)
  | cons j l =>
    rw [prtL] at e
    injection e with e1 _
    exact .inl e1.symm
theorem endv_obj {ks : List (List UInt8)} {l : List JV} {rest : List UInt8} : EndV (prtO false ks l ++ 125 :: rest) := by
  intro c t e
  cases l with
  | nil =>
    rw [prtO] at e
    injection e with e1 _
    exact .inr (.inr e1.symm)
  | cons j l =>
    rw [prtO] at e
    injection e with e1 _
    exact .inl e1.symm
/-- What a value's text is read as. -/
def PBJ (s : List UInt8) (n : Nat) (j : JV) : Prop := ∀ (st : PS) (d : Nat) (rest : List UInt8), goodJ j d → st.fault = none → st.depth + (d : Int) ≤ 16 → s.drop st.at_ = prt j ++ rest → EndV rest → s.length - st.at_ < n → valP s n st = (j, st.to (st.at_ + (prt j).length))
theorem to_to (a b : Nat) : (st.to a).to b = st.to b := rfl
theorem loop_list : ∀ (l : List JV) (j : JV) (acc : List JV) (m : Nat) (S : PS) (d : Nat) (rest : List UInt8), (∀ x ∈ j :: l, PBJ s n x) → goodJL (j :: l) d → S.fault = none → S.depth + (d : Int) ≤ 16 → s.drop S.at_ = prt j ++ (prtL false l ++ 93 :: rest) → s.length - S.at_ < n → s.length - S.at_ < m →
    loopP s 93 (listOne (valP s n)) m acc S = (acc ++ j :: l, S.to (S.at_ + (prt j).length + (prtL false l).length + 1))
  | l, j, acc, 0, S, d, rest, _, _, _, _, _, _, hm => absurd hm (Nat.not_lt_zero _)
  | l, j, acc, m + 1, S, d, rest, hP, hg, hf, hd, hS, hn, hm => by
    have hgj : goodJ j d := goodJL_mem hg j List.mem_cons_self
    have hv := hP j List.mem_cons_self S d _ hgj hf hd hS endv_list hn
    have hone : listOne (valP s n) acc S = (acc ++ [j], S.to (S.at_ + (prt j).length)) := by unfold listOne; rw [hv]
    have hS2 := (Seg.of hS).2
    have hlen : S.at_ + (prt j).length ≤ s.length ∧ 0 < (prt j).length := by
      obtain ⟨c, t, he, _⟩ := prt_head hgj
      have h1 := congrArg List.length hS
      simp only [List.length_drop, List.length_append, List.length_cons] at h1
      exact ⟨by omega, by rw [he]; simp⟩
    have hb : (listOne (valP s n) acc S).2.blanks s = S.to (S.at_ + (prt j).length) := by
      rw [hone]
      exact blanks_none (fun c t e => endv_list.blank c t (by rw [← hS2]; exact e))
    have hfo : (listOne (valP s n) acc S).2.fault = none := by rw [hone]; exact hf
    cases l with
    | nil =>
      rw [prtL] at hS2 ⊢
      have hsee : (S.to (S.at_ + (prt j).length)).sees s 93 = true := sees_head (t := rest) hS2
      rw [loopP_end hfo (by rw [hb]; exact hsee), hb, hone, PS.next_yes hsee]
      simp [PS.to]
    | cons j2 l2 =>
      have hgj2 : goodJ j2 d := goodJL_mem hg j2 (by simp)
      have hS3 : s.drop (S.at_ + (prt j).length) = 44 :: (prt j2 ++ (prtL false l2 ++ 93 :: rest)) := by
        rw [hS2]
        conv => lhs; rw [prtL]
        simp
      have h93 : (S.to (S.at_ + (prt j).length)).sees s 93 = false := sees_not fun c t e => by
        have e' : s.drop (S.at_ + (prt j).length) = c :: t := e
        rw [hS3] at e'
        injection e' with e1 _
        rw [← e1]; decide
      have h44 : (S.to (S.at_ + (prt j).length)).sees s 44 = true := sees_head hS3
      have hS4 := (drop_head hS3).2.1
      rw [loopP_next hfo (by rw [hb]; exact h93) (by rw [hb]; exact h44), hb, hone]
      have hb2 : ((S.to (S.at_ + (prt j).length)).to ((S.to (S.at_ + (prt j).length)).at_ + 1)).blanks s = S.to (S.at_ + (prt j).length + 1) := by
        obtain ⟨c', t', he, hnb, _⟩ := prt_head hgj2
        refine blanks_none fun c t e => ?_
        have e' : s.drop (S.at_ + (prt j).length + 1) = c :: t := e
        rw [hS4, he] at e'
        injection e' with e1 _
        rw [← e1]; exact hnb
      rw [hb2, loop_list l2 j2 (acc ++ [j]) m (S.to (S.at_ + (prt j).length + 1)) d rest (fun x hx => hP x (List.mem_cons_of_mem _ hx)) (by rw [goodJL] at hg; exact hg.2) hf hd hS4 (by show s.length - (S.at_ + (prt j).length + 1) < n; omega) (by show s.length - (S.at_ + (prt j).length + 1) < m; omega)]
      have hpl : (prtL false (j2 :: l2)).length = 1 + (prt j2).length + (prtL false l2).length := by rw [prtL]; simp; omega
      rw [hpl]
      simp only [List.append_assoc, List.singleton_append, to_to, Prod.mk.injEq, true_and]
      show PS.mk _ _ _ = PS.mk _ _ _
      congr 1
      show S.at_ + (prt j).length + 1 + (prt j2).length + (prtL false l2).length + 1 = _
      omega
/-- One part of an object. -/
theorem one_obj {k : List UInt8} {j : JV} {x : List (List UInt8) × List JV} {d : Nat} {R : List UInt8} (hP : PBJ s n j) (hg : goodJ j d) (hk : ValidU k) (hkx : k ∉ x.1) (hf : S.fault = none) (hd : S.depth + (d : Int) ≤ 16) (hS : s.drop S.at_ = quoteB k ++ (58 :: (prt j ++ R))) (hR : EndV R) (hn : s.length - S.at_ < n) :
    objOne s (valP s n) x S = ((x.1 ++ [k], x.2 ++ [j]), S.to (S.at_ + (quoteB k).length + 1 + (prt j).length)) ∧ s.drop (S.at_ + (quoteB k).length + 1 + (prt j).length) = R ∧ S.at_ + (quoteB k).length + 1 + (prt j).length ≤ s.length := by
  obtain ⟨ht, htv⟩ := text_quote hf hk hS
  have hS2 := (Seg.of hS).2
  have hb : (S.text s).blanks s = S.to (S.at_ + (quoteB k).length) := by
    rw [ht]
    refine blanks_none fun c t e => ?_
    have e' : s.drop (S.at_ + (quoteB k).length) = c :: t := e
    rw [hS2] at e'
    injection e' with e1 _
    rw [← e1]; decide
  have h58 : ((S.text s).blanks s).sees s 58 = true := by rw [hb]; exact sees_head hS2
  have hS3 := (drop_head hS2).2.1
  have hb2 : ((S.to (S.at_ + (quoteB k).length)).to ((S.to (S.at_ + (quoteB k).length)).at_ + 1)).blanks s = S.to (S.at_ + (quoteB k).length + 1) := by
    obtain ⟨c', t', he, hnb, _⟩ := prt_head hg
    refine blanks_none fun c t e => ?_
    have e' : s.drop (S.at_ + (quoteB k).length + 1) = c :: t := e
    rw [hS3, he] at e'
    injection e' with e1 _
    rw [← e1]; exact hnb
  have hv := hP (S.to (S.at_ + (quoteB k).length + 1)) d R hg hf hd hS3 hR (by show s.length - (S.at_ + (quoteB k).length + 1) < n; omega)
  have hS4 := (Seg.of hS3).2
  refine ⟨?_, hS4, ?_⟩
  · rw [objOne_ok (by rw [htv]; exact hkx) h58, hb, hb2, hv, htv]
    rfl
  · have h1 := congrArg List.length hS3
    simp only [List.length_drop, List.length_append] at h1
    have h2 := (drop_head hS2).2.2
    omega
theorem loop_obj : ∀ (l : List JV) (k : List UInt8) (ks : List (List UInt8)) (j : JV) (ak : List (List UInt8)) (al : List JV) (m : Nat) (S : PS) (d : Nat) (rest : List UInt8), (∀ x ∈ j :: l, PBJ s n x) → goodJL (j :: l) d → ks.length = l.length → (ak ++ k :: ks).Nodup → (∀ y ∈ k :: ks, ValidU y) → S.fault = none → S.depth + (d : Int) ≤ 16 →
    s.drop S.at_ = quoteB k ++ (58 :: (prt j ++ (prtO false ks l ++ 125 :: rest))) → s.length - S.at_ < n → s.length - S.at_ < m →
    loopP s 125 (objOne s (valP s n)) m (ak, al) S = ((ak ++ k :: ks, al ++ j :: l), S.to (S.at_ + (quoteB k).length + 1 + (prt j).length + (prtO false ks l).length + 1))
  | l, k, ks, j, ak, al, 0, S, d, rest, _, _, _, _, _, _, _, _, _, hm => absurd hm (Nat.not_lt_zero _)
  | l, k, ks, j, ak, al, m + 1, S, d, rest, hP, hg, hkl, hnd, hvu, hf, hd, hS, hn, hm => by
    have hgj : goodJ j d := goodJL_mem hg j List.mem_cons_self
    have hkn : k ∉ ak := by
      intro h
      rw [List.nodup_append] at hnd
      exact hnd.2.2 k h k List.mem_cons_self rfl
    obtain ⟨hone, hS2, hlen⟩ := one_obj (x := (ak, al)) (hP j List.mem_cons_self) hgj (hvu k List.mem_cons_self) hkn hf hd hS endv_obj hn
    obtain ⟨E, hE⟩ : ∃ E, E = S.at_ + (quoteB k).length + 1 + (prt j).length := ⟨_, rfl⟩
    have hEge : S.at_ + 1 ≤ E := by omega
    rw [← hE] at hone hS2 hlen ⊢
    have hb : (objOne s (valP s n) (ak, al) S).2.blanks s = S.to E := by
      rw [hone]
      exact blanks_none (fun c t e => endv_obj.blank c t (by rw [← hS2]; exact e))
    have hfo : (objOne s (valP s n) (ak, al) S).2.fault = none := by rw [hone]; exact hf
    cases l with
    | nil =>
      have hks : ks = [] := List.eq_nil_of_length_eq_zero hkl
      subst hks
      rw [prtO] at hS2 ⊢
      have hsee : (S.to E).sees s 125 = true := sees_head (t := rest) hS2
      rw [loopP_end hfo (by rw [hb]; exact hsee), hb, hone, PS.next_yes hsee]
      simp [PS.to]
    | cons j2 l2 =>
      cases ks with
      | nil => simp at hkl
      | cons k2 ks2 =>
        have hgj2 : goodJ j2 d := goodJL_mem hg j2 (by simp)
        have hS3 : s.drop E = 44 :: (quoteB k2 ++ (58 :: (prt j2 ++ (prtO false ks2 l2 ++ 125 :: rest)))) := by
          rw [hS2]
          conv => lhs; rw [prtO]
          simp
        have h93 : (S.to E).sees s 125 = false := sees_not fun c t e => by
          have e' : s.drop E = c :: t := e
          rw [hS3] at e'
          injection e' with e1 _
          rw [← e1]; decide
        have h44 : (S.to E).sees s 44 = true := sees_head hS3
        have hS4 := (drop_head hS3).2.1
        rw [loopP_next hfo (by rw [hb]; exact h93) (by rw [hb]; exact h44), hb, hone]
        have hb2 : ((S.to E).to ((S.to E).at_ + 1)).blanks s = S.to (E + 1) := by
          refine blanks_none fun c t e => ?_
          have e' : s.drop (E + 1) = c :: t := e
          rw [hS4] at e'
          unfold quoteB at e'
          injection e' with e1 _
          rw [← e1]; decide
        rw [hb2, loop_obj l2 k2 ks2 j2 (ak ++ [k]) (al ++ [j]) m (S.to (E + 1)) d rest (fun x hx => hP x (List.mem_cons_of_mem _ hx)) (by rw [goodJL] at hg; exact hg.2) (by simpa using hkl) (by rw [List.append_assoc]; exact hnd) (fun y hy => hvu y (List.mem_cons_of_mem _ hy)) hf hd hS4 (by show s.length - (E + 1) < n; omega) (by show s.length - (E + 1) < m; omega)]
        have hpl : (prtO false (k2 :: ks2) (j2 :: l2)).length = 1 + (quoteB k2).length + 1 + (prt j2).length + (prtO false ks2 l2).length := by rw [prtO]; simp; omega
        rw [hpl]
        simp only [List.append_assoc, List.singleton_append, to_to, Prod.mk.injEq, true_and]
        show PS.mk _ _ _ = PS.mk _ _ _
        congr 1
        show E + 1 + (quoteB k2).length + 1 + (prt j2).length + (prtO false ks2 l2).length + 1 = _
        omega
end
/-- A well-made value's text is read as it. -/
theorem pb_all (s : List UInt8) : ∀ (sz : Nat) (j : JV), SizeOf.sizeOf j ≤ sz → ∀ n, PBJ s n j
  | 0, j, hz => by cases j <;> simp at hz
  | sz + 1, j, hz => by
    intro n st d rest hg hf hd hS hR hn
    cases n with
    | zero => exact absurd hn (Nat.not_lt_zero _)
    | succ n =>
    obtain ⟨c0, t0, he0, _⟩ := prt_head hg
    have hS0 : s.drop st.at_ = c0 :: (t0 ++ rest) := by rw [hS, he0]; rfl
    obtain ⟨hc, _, hlt⟩ := drop_head hS0
    rw [valP_some hf hc]
    cases j with
    | nil => simp [goodJ] at hg
    | null =>
      rw [prt] at he0 hS ⊢
      injection he0 with e1 _
      subst e1
      rw [if_neg (by decide), if_neg (by decide), if_neg (by decide), if_neg (by decide), if_neg (by decide), if_pos rfl, word_there _ hf hS]
    | bool b =>
      rw [prt] at he0 hS ⊢
      cases b with
      | true =>
        have e1 : c0 = 116 := by injection he0 with e1 _; exact e1.symm
        subst e1
        rw [if_neg (by decide), if_neg (by decide), if_neg (by decide), if_pos rfl, word_there [116, 114, 117, 101] hf hS]
        rfl
      | false =>
        have e1 : c0 = 102 := by injection he0 with e1 _; exact e1.symm
        subst e1
        rw [if_neg (by decide), if_neg (by decide), if_neg (by decide), if_neg (by decide), if_pos rfl, word_there [102, 97, 108, 115, 101] hf hS]
        rfl
    | num x =>
      rw [goodJ] at hg
      rw [prt] at he0 hS ⊢
      obtain ⟨c, t, rfl, hcc⟩ := hg.head
      injection he0 with e1 _
      subst e1
      have h2 := num_c c hcc
      obtain ⟨h3, h4⟩ := num_there hf hg hS hR.num
      rw [if_neg h2.2.2.2.1, if_neg h2.2.2.2.2.1, if_neg h2.2.2.2.2.2.1, if_neg h2.2.2.2.2.2.2.1, if_neg h2.2.2.2.2.2.2.2.1, if_neg h2.2.2.2.2.2.2.2.2, h3, h4]
    | text x =>
      rw [goodJ] at hg
      rw [prt] at he0 hS ⊢
      have e1 : c0 = 34 := by unfold quoteB at he0; injection he0 with e1 _; exact e1.symm
      subst e1
      obtain ⟨h3, h4⟩ := text_quote hf hg hS
      rw [if_neg (by decide), if_neg (by decide), if_pos rfl, h3, h4]
    | list l =>
      rw [goodJ] at hg
      rw [prt] at he0 hS ⊢
      injection he0 with e1 _
      subst e1
      have hpb : ∀ x ∈ l, PBJ s n x := fun x hx => pb_all s sz x (by
        have := List.sizeOf_lt_of_mem hx
        simp at hz
        omega) n
      have hS1 : s.drop (st.at_ + 1) = prtL true l ++ (93 :: rest) := by rw [(drop_head (t := prtL true l ++ [93] ++ rest) hS).2.1]; simp
      have ho : st.open_ s = st.deeper.to (st.at_ + 1) := by
        rw [open_flat (by omega)]
        refine blanks_none fun c t e => ?_
        have e' : s.drop (st.at_ + 1) = c :: t := e
        rw [hS1] at e'
        cases l with
        | nil => rw [prtL] at e'; injection e' with e1 _; rw [← e1]; decide
        | cons j2 l2 =>
          obtain ⟨c', t', he, hnb, _⟩ := prt_head (goodJL_mem hg.2 j2 List.mem_cons_self)
          rw [prtL, he] at e'
          injection e' with e1 _
          rw [← e1]; exact hnb
      have hdep : ∀ a, (PS.mk a (st.depth + 1) st.fault).higher = st.to a := fun a => by
        show PS.mk _ _ _ = PS.mk _ _ _
        congr 1
        show st.depth + 1 - 1 = st.depth
        omega
      have hmem : memP s 93 (listOne (valP s n)) n [] st = (l, st.to (st.at_ + (91 :: (prtL true l ++ [93])).length)) := by
        unfold memP
        rw [ho]
        cases l with
        | nil =>
          rw [prtL] at hS1 ⊢
          have hsee : (st.deeper.to (st.at_ + 1)).sees s 93 = true := sees_head (t := rest) hS1
          rw [if_pos hsee, PS.next_yes hsee]
          show ([], (PS.mk _ (st.depth + 1) st.fault).higher) = _
          rw [hdep]
          rfl
        | cons j2 l2 =>
          obtain ⟨c', t', he, _, hn93, _⟩ := prt_head (goodJL_mem hg.2 j2 List.mem_cons_self)
          have hS2 : s.drop (st.at_ + 1) = prt j2 ++ (prtL false l2 ++ 93 :: rest) := by rw [hS1]; conv => lhs; rw [prtL]; simp
          have h93 : (st.deeper.to (st.at_ + 1)).sees s 93 = false := sees_not fun c t e => by
            have e' : s.drop (st.at_ + 1) = c :: t := e
            rw [hS2, he] at e'
            injection e' with e1 _
            rw [← e1]; exact hn93
          rw [h93, if_neg (by decide), if_pos (show (st.deeper.to (st.at_ + 1)).fault = none from hf)]
          rw [loop_list l2 j2 [] n (st.deeper.to (st.at_ + 1)) (d - 1) rest hpb hg.2 hf (by show st.depth + 1 + ((d - 1 : Nat) : Int) ≤ 16; have := hg.1; omega) hS2 (by show s.length - (st.at_ + 1) < n; omega) (by show s.length - (st.at_ + 1) < n; omega)]
          show ([] ++ j2 :: l2, (PS.mk _ (st.depth + 1) st.fault).higher) = _
          rw [hdep, List.nil_append]
          have hpl : (prtL true (j2 :: l2)).length = (prt j2).length + (prtL false l2).length := by rw [prtL]; simp
          simp only [Prod.mk.injEq, true_and]
          show PS.mk _ _ _ = PS.mk _ _ _
          congr 1
          rw [List.length_cons, List.length_append, hpl]
          show st.at_ + 1 + (prt j2).length + (prtL false l2).length + 1 = _
          simp
          omega
      rw [if_neg (by decide), if_pos rfl, hmem]
    | obj ks l =>
      rw [goodJ] at hg
      rw [prt] at he0 hS ⊢
      injection he0 with e1 _
      subst e1
      have hpb : ∀ x ∈ l, PBJ s n x := fun x hx => pb_all s sz x (by
        have := List.sizeOf_lt_of_mem hx
        simp at hz
        omega) n
      have hS1 : s.drop (st.at_ + 1) = prtO true ks l ++ (125 :: rest) := by rw [(drop_head (t := prtO true ks l ++ [125] ++ rest) hS).2.1]; simp
      have ho : st.open_ s = st.deeper.to (st.at_ + 1) := by
        rw [open_flat (by omega)]
        refine blanks_none fun c t e => ?_
        have e' : s.drop (st.at_ + 1) = c :: t := e
        rw [hS1] at e'
        cases l with
        | nil => rw [prtO] at e'; injection e' with e1 _; rw [← e1]; decide
        | cons j2 l2 =>
          rw [prtO] at e'
          unfold quoteB at e'
          injection e' with e1 _
          rw [← e1]; decide
      have hdep : ∀ a, (PS.mk a (st.depth + 1) st.fault).higher = st.to a := fun a => by
        show PS.mk _ _ _ = PS.mk _ _ _
        congr 1
        show st.depth + 1 - 1 = st.depth
        omega
      have hmem : memP s 125 (objOne s (valP s n)) n ([], []) st = ((ks, l), st.to (st.at_ + (123 :: (prtO true ks l ++ [125])).length)) := by
        unfold memP
        rw [ho]
        cases l with
        | nil =>
          have hks : ks = [] := List.eq_nil_of_length_eq_zero hg.2.1
          subst hks
          rw [prtO] at hS1 ⊢
          have hsee : (st.deeper.to (st.at_ + 1)).sees s 125 = true := sees_head (t := rest) hS1
          rw [if_pos hsee, PS.next_yes hsee]
          show (([], []), (PS.mk _ (st.depth + 1) st.fault).higher) = _
          rw [hdep]
          rfl
        | cons j2 l2 =>
          cases ks with
          | nil => have := hg.2.1; simp at this
          | cons k2 ks2 =>
            have hS2 : s.drop (st.at_ + 1) = quoteB k2 ++ (58 :: (prt j2 ++ (prtO false ks2 l2 ++ 125 :: rest))) := by rw [hS1]; conv => lhs; rw [prtO]; simp
            have h93 : (st.deeper.to (st.at_ + 1)).sees s 125 = false := sees_not fun c t e => by
              have e' : s.drop (st.at_ + 1) = c :: t := e
              rw [hS2] at e'
              unfold quoteB at e'
              injection e' with e1 _
              rw [← e1]; decide
            rw [h93, if_neg (by decide), if_pos (show (st.deeper.to (st.at_ + 1)).fault = none from hf)]
            rw [loop_obj l2 k2 ks2 j2 [] [] n (st.deeper.to (st.at_ + 1)) (d - 1) rest hpb hg.2.2.2.2 (by have := hg.2.1; simpa using this) hg.2.2.1 hg.2.2.2.1 hf (by show st.depth + 1 + ((d - 1 : Nat) : Int) ≤ 16; have := hg.1; omega) hS2 (by show s.length - (st.at_ + 1) < n; omega) (by show s.length - (st.at_ + 1) < n; omega)]
            show (([] ++ k2 :: ks2, [] ++ j2 :: l2), (PS.mk _ (st.depth + 1) st.fault).higher) = _
            rw [hdep, List.nil_append, List.nil_append]
            have hpl : (prtO true (k2 :: ks2) (j2 :: l2)).length = (quoteB k2).length + 1 + (prt j2).length + (prtO false ks2 l2).length := by rw [prtO]; simp; omega
            simp only [Prod.mk.injEq, true_and]
            show PS.mk _ _ _ = PS.mk _ _ _
            congr 1
            rw [List.length_cons, List.length_append, hpl]
            show st.at_ + 1 + (quoteB k2).length + 1 + (prt j2).length + (prtO false ks2 l2).length + 1 = _
            simp
            omega
      rw [if_pos rfl, hmem]
/-- A well-made value that was printed is parsed as it was. -/
theorem parse_print {j : JV} (hg : goodJ j 16) (hl : (prt j).length ≤ 8192) : parseP (prt j) = (j, 0, 0) := by
  obtain ⟨c, t, he, hnb, _⟩ := prt_head hg
  have hst : startP (prt j) = ⟨0, 0, none⟩ := by
    unfold startP
    exact blanks_none fun c' t' e => by
      have e' : (prt j) = c' :: t' := e
      rw [he] at e'
      injection e' with e1 _
      rw [← e1]; exact hnb
  have hv := pb_all (prt j) (SizeOf.sizeOf j) j (Nat.le_refl _) ((prt j).length + 1) ⟨0, 0, none⟩ 16 [] hg rfl (by show (0 : Int) + 16 ≤ 16; decide) (by simp) (fun c t e => by cases e) (by show (prt j).length - 0 < _; omega)
  have hb : bodyP (prt j) = (j, ⟨(prt j).length, 0, none⟩) := by
    unfold bodyP
    rw [hst, hv]
    simp [PS.to]
  have hbl : (bodyP (prt j)).2.blanks (prt j) = ⟨(prt j).length, 0, none⟩ := by
    rw [hb]
    exact blanks_none fun c' t' e => by
      have e' : (prt j).drop (prt j).length = c' :: t' := e
      rw [List.drop_length] at e'
      cases e'
  rw [parseP_ok (by omega) (by rw [hb]) (by rw [hbl]; exact Nat.lt_irrefl _), hb]
end Go.Proofs.YtkbopeoaoakfnaaDoor
