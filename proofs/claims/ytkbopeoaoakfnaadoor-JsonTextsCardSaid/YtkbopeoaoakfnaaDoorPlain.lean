/- The plain mathematics of the wire layer: what lists' bytes are. No program in sight. -/
namespace Go.Proofs.YtkbopeoaoakfnaaDoor

def be4 (m : Nat) : List UInt8 := [UInt8.ofNat (m / 16777216), UInt8.ofNat (m / 65536), UInt8.ofNat (m / 256), UInt8.ofNat m]
theorem be4_length (m : Nat) : (be4 m).length = 4 := rfl

/-- The bytes that a list's members take up, with their lengths. -/
def bulk : List (List UInt8) → Nat
  | [] => 0
  | b :: l => 4 + b.length + bulk l
theorem bulk_append (l m : List (List UInt8)) : bulk (l ++ m) = bulk l + bulk m := by
  induction l with
  | nil => simp [bulk]
  | cons a l ih => simp only [List.cons_append, bulk, ih]; omega
theorem bulk_take_succ (l : List (List UInt8)) (k : Nat) (h : k < l.length) : bulk (l.take (k + 1)) = bulk (l.take k) + (4 + l[k].length) := by
  rw [List.take_succ_eq_append_getElem h, bulk_append]; simp [bulk]
theorem bulk_take_le (l : List (List UInt8)) (k : Nat) : bulk (l.take k) ≤ bulk l := by
  have := bulk_append (l.take k) (l.drop k)
  rw [List.take_append_drop] at this; omega
theorem bulk_ge (l : List (List UInt8)) : 4 * l.length ≤ bulk l := by
  induction l with
  | nil => simp [bulk]
  | cons a l ih => simp only [List.length_cons, bulk]; omega
def encOK (l : List (List UInt8)) : Bool := decide (l.length ≤ 65536) && decide (4 + bulk l ≤ 1048576)
def members : List (List UInt8) → List UInt8
  | [] => []
  | b :: l => be4 b.length ++ b ++ members l
theorem members_append (l m : List (List UInt8)) : members (l ++ m) = members l ++ members m := by
  induction l with
  | nil => simp [members]
  | cons a l ih => simp [members, ih]
theorem members_take_succ (l : List (List UInt8)) (k : Nat) (h : k < l.length) : members (l.take (k + 1)) = members (l.take k) ++ be4 l[k].length ++ l[k] := by
  rw [List.take_succ_eq_append_getElem h, members_append]; simp [members]
theorem members_length (l : List (List UInt8)) : (members l).length = bulk l := by
  induction l with
  | nil => rfl
  | cons a l ih => simp only [members, List.length_append, be4_length, ih, bulk]
def encB (l : List (List UInt8)) : List UInt8 := if encOK l then be4 l.length ++ members l else []
def encE (l : List (List UInt8)) : Int := if encOK l then 0 else 6
theorem encB_ok {l : List (List UInt8)} (h : encOK l = true) : encB l = be4 l.length ++ members l := by simp [encB, h]
theorem encB_no {l : List (List UInt8)} (h : encOK l = false) : encB l = [] := by simp [encB, h]
theorem encE_ok {l : List (List UInt8)} (h : encOK l = true) : encE l = 0 := by simp [encE, h]
theorem encE_no {l : List (List UInt8)} (h : encOK l = false) : encE l = 6 := by simp [encE, h]
theorem encOK_of {l : List (List UInt8)} (h : l.length ≤ 65536) (h' : 4 + bulk l ≤ 1048576) : encOK l = true := by simp [encOK, h, h']
theorem encOK_no1 {l : List (List UInt8)} (h : 65536 < l.length) : encOK l = false := by simp [encOK]; omega
theorem encOK_no2 {l : List (List UInt8)} (h : 1048576 < 4 + bulk l) : encOK l = false := by simp [encOK]; omega

/-- The number of the first 4 bytes. -/
def num4 (l : List UInt8) : Nat := (l.getD 0 0).toNat * 16777216 + (l.getD 1 0).toNat * 65536 + (l.getD 2 0).toNat * 256 + (l.getD 3 0).toNat
theorem num4_lt (l : List UInt8) : num4 l < 4294967296 := by
  unfold num4
  have h0 := (l.getD 0 0).toNat_lt; have h1 := (l.getD 1 0).toNat_lt; have h2 := (l.getD 2 0).toNat_lt; have h3 := (l.getD 3 0).toNat_lt
  omega
theorem num4_be4 (m : Nat) (l : List UInt8) (hm : m < 4294967296) : num4 (be4 m ++ l) = m := by
  simp [num4, be4]
  omega
theorem be4_num4 (l : List UInt8) (h : 4 ≤ l.length) : be4 (num4 l) = l.take 4 := by
  match l, h with
  | a :: b :: c :: d :: r, _ =>
    have h0 := a.toNat_lt; have h1 := b.toNat_lt; have h2 := c.toNat_lt; have h3 := d.toNat_lt
    simp only [be4, num4, List.getD_cons_zero, List.getD_cons_succ, List.take_succ_cons, List.take_zero, List.cons.injEq, and_true]
    have e : ∀ (x : Nat) (y : UInt8), x % 256 = y.toNat → UInt8.ofNat x = y := by
      intro x y hxy
      apply UInt8.toNat_inj.1
      simpa using hxy
    exact ⟨e _ _ (by omega), e _ _ (by omega), e _ _ (by omega), e _ _ (by omega)⟩
/-- One member off the bytes. -/
def one (r : List UInt8) : Option (List UInt8 × List UInt8) :=
  if r.length < 4 then none else if r.length - 4 < num4 r then none else some ((r.drop 4).take (num4 r), (r.drop 4).drop (num4 r))
theorem one_no1 {r : List UInt8} (h : r.length < 4) : one r = none := by simp [one, h]
theorem one_no2 {r : List UInt8} (h : r.length - 4 < num4 r) : one r = none := by
  unfold one
  by_cases h4 : r.length < 4
  · rw [if_pos h4]
  · rw [if_neg h4, if_pos h]
theorem one_yes {r : List UInt8} (h : 4 ≤ r.length) (h2 : num4 r ≤ r.length - 4) : one r = some ((r.drop 4).take (num4 r), (r.drop 4).drop (num4 r)) := by
  unfold one; rw [if_neg (by omega), if_neg (by omega)]
/-- k members off the bytes, from the left. -/
def memI : Nat → List UInt8 → Option (List (List UInt8) × List UInt8)
  | 0, r => some ([], r)
  | k + 1, r => (memI k r).bind fun p => (one p.2).map fun q => (p.1 ++ [q.1], q.2)
theorem memI_succ {k : Nat} {r r' x r'' : List UInt8} {ls : List (List UInt8)} (h : memI k r = some (ls, r')) (h1 : one r' = some (x, r'')) : memI (k + 1) r = some (ls ++ [x], r'') := by
  simp [memI, h, h1]
theorem memI_fail {k n : Nat} {r r' : List UInt8} {ls : List (List UInt8)} (h : memI k r = some (ls, r')) (h1 : one r' = none) (hn : k < n) : memI n r = none := by
  have h2 : memI (k + 1) r = none := by simp [memI, h, h1]
  have : ∀ d, memI (k + 1 + d) r = none := by
    intro d
    induction d with
    | zero => exact h2
    | succ d ih => rw [show k + 1 + (d + 1) = (k + 1 + d) + 1 from by omega, memI, ih]; rfl
  rw [show n = k + 1 + (n - (k + 1)) from by omega]
  exact this _
theorem memI_length {k : Nat} {r r' : List UInt8} {ls : List (List UInt8)} (h : memI k r = some (ls, r')) : ls.length = k := by
  induction k generalizing ls r' with
  | zero => simp [memI] at h; simp [← h.1]
  | succ k ih =>
    simp only [memI, Option.bind_eq_some_iff, Option.map_eq_some_iff, Prod.exists, Prod.mk.injEq] at h
    obtain ⟨ls', r1, h1, x, r2, _, rfl, _⟩ := h
    simp [ih h1]
theorem memI_drop {k : Nat} {r r' : List UInt8} {ls : List (List UInt8)} (h : memI k r = some (ls, r')) : members ls ++ r' = r := by
  induction k generalizing ls r' with
  | zero =>
    simp [memI] at h
    obtain ⟨rfl, rfl⟩ := h
    rfl
  | succ k ih =>
    simp only [memI, Option.bind_eq_some_iff, Option.map_eq_some_iff, Prod.exists, Prod.mk.injEq] at h
    obtain ⟨ls', r1, h1, x, r2, h2, rfl, rfl⟩ := h
    have := ih h1
    rw [← this, members_append, List.append_assoc]
    congr 1
    unfold one at h2
    split at h2
    · cases h2
    · rename_i h4
      split at h2
      · cases h2
      · rename_i h5
        simp only [Option.some.injEq, Prod.mk.injEq] at h2
        obtain ⟨rfl, rfl⟩ := h2
        have hl : ((r1.drop 4).take (num4 r1)).length = num4 r1 := by rw [List.length_take, List.length_drop]; omega
        simp only [members, List.append_nil]
        rw [hl, be4_num4 _ (by omega), List.append_assoc, List.take_append_drop, List.take_append_drop]
theorem memI_members (ls : List (List UInt8)) (r : List UInt8) (hb : ∀ l ∈ ls, l.length < 4294967296) : memI ls.length (members ls ++ r) = some (ls, r) := by
  have gen : ∀ (k : Nat), k ≤ ls.length → memI k (members ls ++ r) = some (ls.take k, members (ls.drop k) ++ r) := by
    intro k
    induction k with
    | zero => intro _; rfl
    | succ k ih =>
      intro hk
      have hlt : k < ls.length := by omega
      have h1 := ih (by omega)
      have hd : ls.drop k = ls[k] :: ls.drop (k + 1) := List.drop_eq_getElem_cons hlt
      have hm : members (ls.drop k) ++ r = be4 ls[k].length ++ (ls[k] ++ (members (ls.drop (k + 1)) ++ r)) := by rw [hd]; simp [members]
      have hx := hb ls[k] (List.getElem_mem hlt)
      have hn : num4 (members (ls.drop k) ++ r) = ls[k].length := by rw [hm]; exact num4_be4 _ _ hx
      have hdr : (members (ls.drop k) ++ r).drop 4 = ls[k] ++ (members (ls.drop (k + 1)) ++ r) := by rw [hm]; rfl
      have hlen : (members (ls.drop k) ++ r).length = 4 + ls[k].length + (members (ls.drop (k + 1)) ++ r).length := by rw [hm]; simp [be4_length]; omega
      refine (memI_succ h1 (one_yes (by omega) (by omega))).trans ?_
      rw [hn, hdr, List.take_left, List.drop_left, List.take_succ_eq_append_getElem hlt]
  have := gen ls.length (Nat.le_refl _)
  rw [this, List.take_length, List.drop_length]
  rfl
def decV (l : List UInt8) : List (List UInt8) :=
  if 1048576 < l.length then [] else if l.length < 4 then [] else if 65536 < num4 l then [] else
    match memI (num4 l) (l.drop 4) with
    | some (ls, []) => ls
    | _ => []
def decE (l : List UInt8) : Int :=
  if 1048576 < l.length then 6 else if l.length < 4 then 2 else if 65536 < num4 l then 2 else
    match memI (num4 l) (l.drop 4) with
    | some (_, []) => 0
    | _ => 2
theorem dec_large {l : List UInt8} (h : 1048576 < l.length) : decV l = [] ∧ decE l = 6 := by simp [decV, decE, h]
theorem dec_short {l : List UInt8} (h : ¬ 1048576 < l.length) (h4 : l.length < 4) : decV l = [] ∧ decE l = 2 := by simp [decV, decE, h, h4]
theorem dec_many {l : List UInt8} (h : ¬ 1048576 < l.length) (h4 : ¬ l.length < 4) (hn : 65536 < num4 l) : decV l = [] ∧ decE l = 2 := by simp [decV, decE, h, h4, hn]
theorem dec_fail {l : List UInt8} (h : ¬ 1048576 < l.length) (h4 : ¬ l.length < 4) (hn : ¬ 65536 < num4 l) (hm : memI (num4 l) (l.drop 4) = none) : decV l = [] ∧ decE l = 2 := by simp [decV, decE, h, h4, hn, hm]
theorem dec_rest {l r : List UInt8} {ls : List (List UInt8)} (h : ¬ 1048576 < l.length) (h4 : ¬ l.length < 4) (hn : ¬ 65536 < num4 l) (hm : memI (num4 l) (l.drop 4) = some (ls, r)) (hr : 0 < r.length) : decV l = [] ∧ decE l = 2 := by
  cases r with
  | nil => simp at hr
  | cons a r => simp [decV, decE, h, h4, hn, hm]
theorem dec_ok {l r : List UInt8} {ls : List (List UInt8)} (h : ¬ 1048576 < l.length) (h4 : ¬ l.length < 4) (hn : ¬ 65536 < num4 l) (hm : memI (num4 l) (l.drop 4) = some (ls, r)) (hr : r.length = 0) : decV l = ls ∧ decE l = 0 := by
  have : r = [] := List.eq_nil_of_length_eq_zero hr
  subst this
  simp [decV, decE, h, h4, hn, hm]
theorem dec_cases (l : List UInt8) : (decE l = 0 ∧ ∃ ls, decV l = ls ∧ l = be4 ls.length ++ members ls ∧ ls.length ≤ 65536 ∧ l.length ≤ 1048576) ∨ ((decE l = 2 ∨ decE l = 6) ∧ decV l = []) := by
  by_cases h : 1048576 < l.length
  · exact .inr ⟨.inr (dec_large h).2, (dec_large h).1⟩
  by_cases h4 : l.length < 4
  · exact .inr ⟨.inl (dec_short h h4).2, (dec_short h h4).1⟩
  by_cases hn : 65536 < num4 l
  · exact .inr ⟨.inl (dec_many h h4 hn).2, (dec_many h h4 hn).1⟩
  cases hm : memI (num4 l) (l.drop 4) with
  | none => exact .inr ⟨.inl (dec_fail h h4 hn hm).2, (dec_fail h h4 hn hm).1⟩
  | some p =>
    obtain ⟨ls, r⟩ := p
    by_cases hr : 0 < r.length
    · exact .inr ⟨.inl (dec_rest h h4 hn hm hr).2, (dec_rest h h4 hn hm hr).1⟩
    · have hr0 : r.length = 0 := by omega
      have hk := memI_length hm
      have hd := memI_drop hm
      have : r = [] := List.eq_nil_of_length_eq_zero hr0
      subst this
      refine .inl ⟨(dec_ok h h4 hn hm hr0).2, ls, (dec_ok h h4 hn hm hr0).1, ?_, by omega, by omega⟩
      rw [hk, be4_num4 _ (by omega)]
      rw [List.append_nil] at hd
      rw [hd, List.take_append_drop]
theorem enc_dec {ls : List (List UInt8)} (h : encOK ls = true) : decV (encB ls) = ls ∧ decE (encB ls) = 0 := by
  have h1 : ls.length ≤ 65536 ∧ 4 + bulk ls ≤ 1048576 := by simpa [encOK] using h
  have hlen : (encB ls).length = 4 + bulk ls := by rw [encB_ok h, List.length_append, be4_length, members_length]
  have hn : num4 (encB ls) = ls.length := by rw [encB_ok h]; exact num4_be4 _ _ (by omega)
  have hd : (encB ls).drop 4 = members ls ++ [] := by rw [encB_ok h]; simp [be4]
  have hb : ∀ l ∈ ls, l.length < 4294967296 := by
    intro l hl
    have : ∀ (ls : List (List UInt8)), l ∈ ls → l.length ≤ bulk ls := by
      intro ls
      induction ls with
      | nil => intro h; cases h
      | cons a ls ih =>
        intro h
        simp only [bulk]
        rcases List.mem_cons.1 h with rfl | h
        · omega
        · have := ih h; omega
    have := this ls hl; omega
  exact dec_ok (r := []) (by omega) (by omega) (by omega) (by rw [hn, hd]; exact memI_members ls [] hb) rfl
theorem dec_enc {l : List UInt8} (h : decE l = 0) : encOK (decV l) = true ∧ encB (decV l) = l := by
  rcases dec_cases l with ⟨_, ls, h1, h2, h3, h4⟩ | ⟨h1, _⟩
  · rw [h1]
    have hok : encOK ls = true := encOK_of h3 (by rw [h2, List.length_append, be4_length, members_length] at h4; exact h4)
    exact ⟨hok, by rw [encB_ok hok, ← h2]⟩
  · rcases h1 with h1 | h1 <;> rw [h1] at h <;> cases h

/-- The bytes of which accounts are made. -/
def accB (c : UInt8) : Bool := (decide (97 ≤ c.toNat) && decide (c.toNat ≤ 122)) || (decide (48 ≤ c.toNat) && decide (c.toNat ≤ 57)) || c.toNat == 46 || c.toNat == 95 || c.toNat == 45
def accOK (l : List UInt8) : Bool := l.all accB && decide (1 ≤ l.length) && decide (l.length ≤ 32)
def okR (x : Nat) : Prop := (97 ≤ x ∧ x ≤ 122) ∨ (48 ≤ x ∧ x ≤ 57) ∨ x = 46 ∨ x = 95 ∨ x = 45
theorem accB_yes {c : UInt8} (h : okR c.toNat) : accB c = true := by
  unfold okR at h; simp [accB]; omega
theorem accB_no {c : UInt8} (h : ¬ okR c.toNat) : accB c = false := by
  unfold okR at h; simp [accB]; omega
theorem okR_lt {x : Nat} (h : okR x) : x < 128 := by unfold okR at h; omega
theorem accOK_no {l : List UInt8} {k : Nat} (hk : k < l.length) (h : accB l[k] = false) : accOK l = false := by
  have : l.all accB = false := by
    rw [List.all_eq_false]
    exact ⟨l[k], List.getElem_mem hk, by simp [h]⟩
  simp [accOK, this]
theorem accOK_end {l : List UInt8} (h : ∀ (k : Nat) (hk : k < l.length), accB l[k] = true) : accOK l = (decide (1 ≤ l.length) && decide (l.length ≤ 32)) := by
  have : l.all accB = true := by
    rw [List.all_eq_true]
    intro x hx
    obtain ⟨k, hk, rfl⟩ := List.getElem_of_mem hx
    exact h k hk
  simp [accOK, this]
end Go.Proofs.YtkbopeoaoakfnaaDoor
