/- What is asked when a head is whole, in plain Lean. No conditions. -/
import Derived.Test.YtjichadkonlfpaaDoorH4
namespace Go.Proofs.YtjichadkonlfpaaDoor
open Go.RowKit
def clW : List UInt8 := [99, 111, 110, 116, 101, 110, 116, 45, 108, 101, 110, 103, 116, 104]
def teW : List UInt8 := [116, 114, 97, 110, 115, 102, 101, 114, 45, 101, 110, 99, 111, 100, 105, 110, 103]
def hostW : List UInt8 := [104, 111, 115, 116]
def connW : List UInt8 := [99, 111, 110, 110, 101, 99, 116, 105, 111, 110]
def keepW : List UInt8 := [107, 101, 101, 112, 45, 97, 108, 105, 118, 101]
def closeW : List UInt8 := [99, 108, 111, 115, 101]
def chunkW : List UInt8 := [99, 104, 117, 110, 107, 101, 100]
def digW : List UInt8 := [48, 49, 50, 51, 52, 53, 54, 55, 56, 57]
def numD (v : List UInt8) : Nat := (Lib.decFrom 0 v).getD 0
def lowIs (nm v : List UInt8) : Bool := Lib.toLowerA v == nm
/-- The state of 'close' when the first k connection headers have been looked at for keep-alive, and for close. -/
def keepC (c : Bool) (l : List (List UInt8)) : Bool := if l.any (lowIs keepW) then false else c
def closeC (c : Bool) (l : List (List UInt8)) : Bool := c || l.any (lowIs closeW)
def wholeC (s : PS) : Bool := closeC (keepC s.old (valuesP s.hs connW)) (valuesP s.hs connW)
def badSize (v : List UInt8) : Bool := decide (v.length < 1) || (decide (9 < v.length) || !(Lib.trimS v digW).isEmpty)
def wholeT (s : PS) : List (List UInt8) → List (List UInt8) → PS × Int
  | v :: _, _ => if lowIs chunkW v then ({ s with st := 10 }, 0) else (s, 400)
  | [], v :: _ => if badSize v then (s, 400) else if 4096 < numD v then ({ s with lf := (numD v : Int) }, 413) else ({ s with lf := (numD v : Int) }, 0)
  | [], [] => (s, 0)
def wholeNo (s : PS) : Bool := (!s.old && !decide ((valuesP s.hs hostW).length = 1)) || decide (1 < (valuesP s.hs clW).length + (valuesP s.hs teW).length)
def wholeP (s : PS) : PS × Int := if wholeNo s then (s, 400) else wholeT { s with cl := wholeC s } (valuesP s.hs teW) (valuesP s.hs clW)
theorem any_take (p : List UInt8 → Bool) (l : List (List UInt8)) (k : Nat) (h : k < l.length) : (l.take (k + 1)).any p = ((l.take k).any p || p l[k]) := by
  rw [List.take_succ_eq_append_getElem h, List.any_append]
  simp
theorem keepC_succ (c : Bool) (l : List (List UInt8)) (k : Nat) (h : k < l.length) : keepC c (l.take (k + 1)) = if lowIs keepW l[k] then false else keepC c (l.take k) := by
  unfold keepC
  rw [any_take _ _ _ h]
  cases lowIs keepW l[k] <;> simp
theorem closeC_succ (c : Bool) (l : List (List UInt8)) (k : Nat) (h : k < l.length) : closeC c (l.take (k + 1)) = (closeC c (l.take k) || lowIs closeW l[k]) := by
  unfold closeC
  rw [any_take _ _ _ h, Bool.or_assoc]
theorem dropWhile_all {p : UInt8 → Bool} {l : List UInt8} (h : l.dropWhile p = []) : ∀ b ∈ l, p b = true := by
  induction l with
  | nil => intro b hb; cases hb
  | cons a l ih =>
    rw [List.dropWhile_cons] at h
    split at h
    · rename_i ha
      intro b hb
      rcases List.mem_cons.1 hb with rfl | hb
      · exact ha
      · exact ih h b hb
    · cases h
theorem trim_all {v cs : List UInt8} (h : Lib.trimS v cs = []) : ∀ b ∈ v, cs.contains b = true := by
  have h1 := dropWhile_all (show (Lib.trimRightS v cs).dropWhile (cs.contains ·) = [] from h)
  have h2 : v.reverse.dropWhile (cs.contains ·) = [] := by
    cases hd : v.reverse.dropWhile (cs.contains ·) with
    | nil => rfl
    | cons a l =>
      have h3 := h1 a (by unfold Lib.trimRightS; rw [hd]; simp)
      have h5 := List.head_dropWhile_not (fun x => cs.contains x) (l := v.reverse) (by rw [hd]; simp)
      simp only [hd, List.head_cons] at h5
      rw [h3] at h5; cases h5
  exact fun b hb => dropWhile_all h2 b (by simpa using hb)
theorem dig_val {b : UInt8} (h : digW.contains b = true) : ∃ d, Lib.digitVal b = some d ∧ d < 10 := by
  simp only [digW, List.contains_eq_mem, List.mem_cons, List.not_mem_nil, or_false, decide_eq_true_eq] at h
  rcases h with rfl | rfl | rfl | rfl | rfl | rfl | rfl | rfl | rfl | rfl <;> exact ⟨_, rfl, by decide⟩
theorem dec_some : ∀ (v : List UInt8) (acc : Nat), (∀ b ∈ v, digW.contains b = true) → ∃ n, Lib.decFrom acc v = some n ∧ n < (acc + 1) * 10 ^ v.length
  | [], acc, _ => ⟨acc, rfl, by simp⟩
  | b :: v, acc, h => by
    obtain ⟨d, hd, hlt⟩ := dig_val (h b (by simp))
    obtain ⟨n, hn, hb⟩ := dec_some v (acc * 10 + d) (fun x hx => h x (by simp [hx]))
    refine ⟨n, by simp only [Lib.decFrom, hd]; exact hn, Nat.lt_of_lt_of_le hb ?_⟩
    rw [List.length_cons, Nat.pow_succ]
    have : (acc * 10 + d + 1) * 10 ^ v.length ≤ (acc + 1) * 10 * 10 ^ v.length := Nat.mul_le_mul_right _ (by omega)
    calc _ ≤ _ := this
      _ = _ := by rw [Nat.mul_assoc, Nat.mul_comm 10]
theorem size_ok {v : List UInt8} (h : badSize v = false) : Lib.atoi v = some (numD v : Int) ∧ numD v < 1000000000 ∧ v.length ≤ 9 ∧ 1 ≤ v.length ∧ Lib.trimS v digW = [] := by
  simp only [badSize, Bool.or_eq_false_iff, decide_eq_false_iff_not, Bool.not_eq_eq_eq_not, Bool.not_false, List.isEmpty_iff] at h
  obtain ⟨h1, h2, h3⟩ := h
  have ha := trim_all h3
  obtain ⟨n, hn, hlt⟩ := dec_some v 0 ha
  have hl : v.length ≤ 9 := by omega
  have hlt2 : n < 1000000000 := by
    have : 10 ^ v.length ≤ 10 ^ 9 := Nat.pow_le_pow_right (by decide) hl
    omega
  have hd : numD v = n := by unfold numD; rw [hn]; rfl
  rw [hd]
  refine ⟨?_, hlt2, hl, by omega, h3⟩
  cases v with
  | nil => simp at h1
  | cons b r =>
    have hb := ha b (by simp)
    have n45 : (b == 45) = false := by
      cases hq : b == 45 with
      | false => rfl
      | true => have : b = 45 := by simpa using hq
                subst this; simp [digW] at hb
    have n43 : (b == 43) = false := by
      cases hq : b == 43 with
      | false => rfl
      | true => have : b = 43 := by simpa using hq
                subst this; simp [digW] at hb
    simp only [Lib.atoi, n45, n43, Bool.false_eq_true, if_false, Lib.decNat, List.isEmpty_cons, hn, Option.map_some]
/-- A list of strings of the call's own. -/
def StrL (w : World) (base : Nat) (v : Value) (l : List (List UInt8)) : Prop := w.ownsRow base 9 1 v l.length (strsV l)
theorem StrL.frm {w w' : World} {base : Nat} {v : Value} {l : List (List UInt8)} {ps : List Nat} (h : StrL w base v l) (hf : Frm ps w w') (hp : ∀ q ∈ ps, q < base) : StrL w' base v l := ownR_frms h hf (fun q hq => .inl (hp q hq))
theorem StrL.form {w : World} {base : Nat} {v : Value} {l : List (List UInt8)} (h : StrL w base v l) : ∃ A c, v = .slice A l.length c := by
  obtain ⟨A, c, hv, _⟩ := ownR_form h
  exact ⟨A, c, hv⟩
theorem StrL.at_ {w : World} {base n c : Nat} {A : Option Addr} {l : List (List UInt8)} (h : StrL w base (.slice A n c) l) (hn : l.length = n) (k : Nat) (hk : k < l.length) : ∃ b, A = some ⟨b, 0, none⟩ ∧ w.cell? ⟨b, k, none⟩ = some (.string ⟨l[k].toArray⟩) := by
  subst hn
  have h0 := h
  obtain ⟨hl, h2 | ⟨b, cap, cur, hv, _⟩⟩ := h
  · omega
  · injection hv with hA _ hc
    subst hA hc
    refine ⟨b, rfl, ?_⟩
    rw [World.ownsRow.cellAt h0 k (by omega)]
    simp [strsV, hk]
theorem atoi_any (v : List UInt8) (hb : badSize v = false) (w : World) : Calls Tryd.prog 32 #[.string ⟨v.toArray⟩] w fun e w' => e = .returned (.tuple #[.int .i64 (numD v : Int), .nilIface]) ∧ Below w.heap.size w w' := by
  obtain ⟨h1, _, h3, _⟩ := size_ok hb
  refine (Tryd.strconv_Atoi ⟨v.toArray⟩ (numD v : Int) (by rw [show (ByteArray.mk v.toArray).size = v.length from by simp [ByteArray.size]]; omega) (by simpa using h1) w).mono ?_
  rintro e w' ⟨rfl, t, rfl⟩
  refine ⟨rfl, ⟨?_, ?_, ?_, by rw [Lib.bytesWorld_size]; omega, fun k hk => Lib.bytesWorld_at_old w _ _ k hk⟩⟩
  all_goals (unfold Lib.bytesWorld World.freeze; rw [if_neg (by decide)]; rfl)
end Go.Proofs.YtjichadkonlfpaaDoor
