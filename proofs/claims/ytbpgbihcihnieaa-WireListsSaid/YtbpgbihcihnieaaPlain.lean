/- The plain mathematics of the wire layer: what lists' bytes are. No program in sight. -/
namespace Go.Proofs.Ytbpgbihcihnieaa

def be4 (m : Nat) : List UInt8 := [UInt8.ofNat (m / 16777216), UInt8.ofNat (m / 65536), UInt8.ofNat (m / 256), UInt8.ofNat m]
theorem be4_length (m : Nat) : (be4 m).length = 4 := rfl

/-- The bytes that a list's members take up, with their lengths. -/
def bulk : List (List UInt8) → Nat
  | [] => 0
  | b :: l => 4 + b.length + bulk l
theorem bulk_append (l m : List (List UInt8)) : bulk (l ++ m) = bulk l + bulk m := by
  induction l with
  | nil => simp [bulk]
  | cons a l ih => simp only [List.cons_append, bulk, ih]; omega
theorem bulk_take_succ (l : List (List UInt8)) (k : Nat) (h : k < l.length) : bulk (l.take (k + 1)) = bulk (l.take k) + (4 + l[k].length) := by
  rw [List.take_succ_eq_append_getElem h, bulk_append]; simp [bulk]
theorem bulk_take_le (l : List (List UInt8)) (k : Nat) : bulk (l.take k) ≤ bulk l := by
  have := bulk_append (l.take k) (l.drop k)
  rw [List.take_append_drop] at this; omega
theorem bulk_ge (l : List (List UInt8)) : 4 * l.length ≤ bulk l := by
  induction l with
  | nil => simp [bulk]
  | cons a l ih => simp only [List.length_cons, bulk]; omega
def encOK (l : List (List UInt8)) : Bool := decide (l.length ≤ 65536) && decide (4 + bulk l ≤ 1048576)
def members : List (List UInt8) → List UInt8
  | [] => []
  | b :: l => be4 b.length ++ b ++ members l
theorem members_append (l m : List (List UInt8)) : members (l ++ m) = members l ++ members m := by
  induction l with
  | nil => simp [members]
  | cons a l ih => simp [members, ih]
theorem members_take_succ (l : List (List UInt8)) (k : Nat) (h : k < l.length) : members (l.take (k + 1)) = members (l.take k) ++ be4 l[k].length ++ l[k] := by
  rw [List.take_succ_eq_append_getElem h, members_append]; simp [members]
theorem members_length (l : List (List UInt8)) : (members l).length = bulk l := by
  induction l with
  | nil => rfl
  | cons a l ih => simp only [members, List.length_append, be4_length, ih, bulk]
def encB (l : List (List UInt8)) : List UInt8 := if encOK l then be4 l.length ++ members l else []
def encE (l : List (List UInt8)) : Int := if encOK l then 0 else 6
theorem encB_ok {l : List (List UInt8)} (h : encOK l = true) : encB l = be4 l.length ++ members l := by simp [encB, h]
theorem encB_no {l : List (List UInt8)} (h : encOK l = false) : encB l = [] := by simp [encB, h]
theorem encE_ok {l : List (List UInt8)} (h : encOK l = true) : encE l = 0 := by simp [encE, h]
theorem encE_no {l : List (List UInt8)} (h : encOK l = false) : encE l = 6 := by simp [encE, h]
theorem encOK_of {l : List (List UInt8)} (h : l.length ≤ 65536) (h' : 4 + bulk l ≤ 1048576) : encOK l = true := by simp [encOK, h, h']
theorem encOK_no1 {l : List (List UInt8)} (h : 65536 < l.length) : encOK l = false := by simp [encOK]; omega
theorem encOK_no2 {l : List (List UInt8)} (h : 1048576 < 4 + bulk l) : encOK l = false := by simp [encOK]; omega

/-- The bytes of which accounts are made. -/
def accB (c : UInt8) : Bool := (decide (97 ≤ c.toNat) && decide (c.toNat ≤ 122)) || (decide (48 ≤ c.toNat) && decide (c.toNat ≤ 57)) || c.toNat == 46 || c.toNat == 95 || c.toNat == 45
def accOK (l : List UInt8) : Bool := l.all accB && decide (1 ≤ l.length) && decide (l.length ≤ 32)
def okR (x : Nat) : Prop := (97 ≤ x ∧ x ≤ 122) ∨ (48 ≤ x ∧ x ≤ 57) ∨ x = 46 ∨ x = 95 ∨ x = 45
theorem accB_yes {c : UInt8} (h : okR c.toNat) : accB c = true := by
  unfold okR at h; simp [accB]; omega
theorem accB_no {c : UInt8} (h : ¬ okR c.toNat) : accB c = false := by
  unfold okR at h; simp [accB]; omega
theorem okR_lt {x : Nat} (h : okR x) : x < 128 := by unfold okR at h; omega
theorem accOK_no {l : List UInt8} {k : Nat} (hk : k < l.length) (h : accB l[k] = false) : accOK l = false := by
  have : l.all accB = false := by
    rw [List.all_eq_false]
    exact ⟨l[k], List.getElem_mem hk, by simp [h]⟩
  simp [accOK, this]
theorem accOK_end {l : List UInt8} (h : ∀ (k : Nat) (hk : k < l.length), accB l[k] = true) : accOK l = (decide (1 ≤ l.length) && decide (l.length ≤ 32)) := by
  have : l.all accB = true := by
    rw [List.all_eq_true]
    intro x hx
    obtain ⟨k, hk, rfl⟩ := List.getElem_of_mem hx
    exact h k hk
  simp [accOK, this]
end Go.Proofs.Ytbpgbihcihnieaa
