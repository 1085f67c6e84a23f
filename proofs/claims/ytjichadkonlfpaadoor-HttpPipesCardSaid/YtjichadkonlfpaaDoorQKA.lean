/- The texts K1 K2 K3 K4 K5 of this work, merged by wip/merge.py. No conditions. -/
import Derived.Test.YtjichadkonlfpaaDoorQH9
import Derived.Lib.ItoaNum
namespace Go.Proofs.YtjichadkonlfpaaDoor
open Go.RowKit
/-- Over all the bytes without a status and without a whole request. -/
def run : PS → List UInt8 → Option PS
  | s, [] => some s
  | s, c :: cs => if (take1P s c).2 = 0 ∧ ¬ ((take1P s c).1.st = 9 ∧ (take1P s c).1.lf = 0) then run (take1P s c).1 cs else none
theorem run_app {a b : List UInt8} : ∀ {s s' : PS}, run s a = some s' → run s (a ++ b) = run s' b := by
  induction a with
  | nil => intro s s' h; cases h; rfl
  | cons c a ih =>
    intro s s' h
    rw [List.cons_append, run]
    rw [run] at h
    split at h
    · rename_i hc
      rw [if_pos hc]
      exact ih h
    · cases h
theorem feedP_run {a b : List UInt8} : ∀ {s s' : PS}, run s a = some s' → feedP s (a ++ b) = feedP s' b := by
  induction a with
  | nil => intro s s' h; cases h; rfl
  | cons c a ih =>
    intro s s' h
    rw [List.cons_append, feedP]
    rw [run] at h
    split at h
    · rename_i hc
      rw [if_neg (by rw [hc.1]; simp), if_neg hc.2]
      exact ih h
    · cases h
theorem run_one {s s' : PS} {c : UInt8} (h : take1P s c = (s', 0)) (hn : ¬ (s'.st = 9 ∧ s'.lf = 0)) : run s [c] = some s' := by
  rw [run, h, if_pos ⟨rfl, hn⟩]; rfl
theorem run_cons {s s' : PS} {c : UInt8} {l : List UInt8} (h : take1P s c = (s', 0)) (hn : ¬ (s'.st = 9 ∧ s'.lf = 0)) : run s (c :: l) = run s' l := by
  rw [run, h, if_pos ⟨rfl, hn⟩]
/-- A last byte. -/
theorem feedP_last {s s' : PS} {c : UInt8} {l : List UInt8} (h : take1P s c = (s', 0)) (h9 : s'.st = 9) (hl : s'.lf = 0) (hc : s'.cl = false) : feedP s (c :: l) = ((feedP (zeroP false) l).1, reqOf s' :: (feedP (zeroP false) l).2.1, (feedP (zeroP false) l).2.2) := by
  rw [feedP, h, if_neg (by simp), if_pos ⟨h9, hl⟩, if_neg (by rw [hc]; decide)]
/-- A head's byte that is taken to the word. -/
theorem take1_word {s : PS} {c : UInt8} (h2 : 2 ≤ s.st) (h8 : s.st ≤ 8) (hd : s.hd < 2048) (h : inHeadP s c = ({ s with wd := s.wd ++ [c] }, 0)) : take1P s c = ({ s with wd := s.wd ++ [c], hd := s.hd + 1 }, 0) := by
  unfold take1P
  have hs : start1 s c = s := by unfold start1; rw [if_neg (by omega)]
  rw [hs, if_pos ⟨h2, h8⟩, h]
  unfold head1
  rw [if_neg (by simp), if_neg (by simp only; omega), if_neg (by simp only; omega)]
def isDig (c : UInt8) : Prop := 48 ≤ c.toNat ∧ c.toNat ≤ 57
theorem digs_target (ds : List UInt8) (hd : ∀ c ∈ ds, isDig c) : ∀ (s : PS), s.st = 3 → 0 < s.wd.length → s.hd + (ds.length : Int) ≤ 2048 → 0 ≤ s.hd → run s ds = some { s with wd := s.wd ++ ds, hd := s.hd + (ds.length : Int) } := by
  induction ds with
  | nil => intro s _ _ _ _; simp [run]
  | cons c ds ih =>
    intro s h3 hw hl h0
    have hc := hd c (by simp)
    simp only [List.length_cons] at hl
    have hh : inHeadP s c = ({ s with wd := s.wd ++ [c] }, 0) := by
      unfold inHeadP
      rw [if_neg (by omega), if_pos h3]
      unfold head3
      have e32 : ((c.toNat : Int) == 32) = false := by simp; have := hc.1; omega
      rw [e32, Bool.false_and, if_neg (by decide)]
      have e1 : decide ((32 : Int) < (c.toNat : Int)) = true := by simp; have := hc.1; omega
      have e2 : decide ((c.toNat : Int) < 127) = true := by simp; have := hc.2; omega
      have e3 : decide ((0 : Int) < (s.wd.length : Int)) = true := by simp; omega
      rw [e1, e2, e3]
      rfl
    have ht := take1_word (by omega) (by omega) (by omega) hh
    rw [run_cons ht (by simp only; omega)]
    rw [ih (fun x hx => hd x (by simp [hx])) { s with wd := s.wd ++ [c], hd := s.hd + 1 } h3 (by simp) (by simp only; omega) (by simp only; omega)]
    simp only [List.append_assoc, List.singleton_append, List.length_cons, Option.some.injEq]
    congr 1
    omega
theorem digs_value (ds : List UInt8) (hd : ∀ c ∈ ds, isDig c) : ∀ (s : PS), s.st = 7 → s.hd + (ds.length : Int) ≤ 2048 → 0 ≤ s.hd → run s ds = some { s with wd := s.wd ++ ds, hd := s.hd + (ds.length : Int) } := by
  induction ds with
  | nil => intro s _ _ _; simp [run]
  | cons c ds ih =>
    intro s h3 hl h0
    have hc := hd c (by simp)
    simp only [List.length_cons] at hl
    have hh : inHeadP s c = ({ s with wd := s.wd ++ [c] }, 0) := by
      unfold inHeadP
      rw [if_neg (by omega), if_neg (by omega), if_neg (by omega), if_neg (by omega), if_neg (by omega), if_pos h3]
      unfold head7
      have e13 : ((c.toNat : Int) != 13) = true := by simp; have := hc.1; omega
      rw [e13, if_pos rfl]
      have e1 : decide ((32 : Int) ≤ (c.toNat : Int)) = true := by simp; have := hc.1; omega
      have e2 : decide ((c.toNat : Int) < 127) = true := by simp; have := hc.2; omega
      rw [e1, e2]
      rfl
    have ht := take1_word (by omega) (by omega) (by omega) hh
    rw [run_cons ht (by simp only; omega)]
    rw [ih (fun x hx => hd x (by simp [hx])) { s with wd := s.wd ++ [c], hd := s.hd + 1 } h3 (by simp only; omega) (by simp only; omega)]
    simp only [List.append_assoc, List.singleton_append, List.length_cons, Option.some.injEq]
    congr 1
    omega
/-- A body's bytes, not the last one. -/
theorem body_some (bs : List UInt8) : ∀ (s : PS), s.st = 9 → (bs.length : Int) < s.lf → run s bs = some { s with bd := s.bd ++ bs, lf := s.lf - (bs.length : Int) } := by
  induction bs with
  | nil => intro s _ _; simp [run]
  | cons c bs ih =>
    intro s h9 hl
    simp only [List.length_cons] at hl
    have ht : take1P s c = ({ s with bd := s.bd ++ [c], lf := s.lf - 1 }, 0) := by
      unfold take1P
      have hs : start1 s c = s := by unfold start1; rw [if_neg (by omega)]
      rw [hs, if_neg (by omega)]
      unfold inBodyP
      rw [if_neg (by omega), if_neg (by omega), if_pos (.inl h9)]
      unfold body9
      rw [if_neg (by omega)]
    rw [run_cons ht (by simp only; omega)]
    rw [ih { s with bd := s.bd ++ [c], lf := s.lf - 1 } h9 (by simp only; omega)]
    simp only [List.append_assoc, List.singleton_append, List.length_cons, Option.some.injEq]
    congr 1
    omega
/-- A body's bytes, all. -/
theorem body_all {s : PS} {bs l : List UInt8} (h9 : s.st = 9) (hl : s.lf = (bs.length : Int)) (h0 : bs ≠ []) (hc : s.cl = false) : feedP s (bs ++ l) = ((feedP (zeroP false) l).1, ⟨s.m, s.t, s.hs, s.bd ++ bs, false⟩ :: (feedP (zeroP false) l).2.1, (feedP (zeroP false) l).2.2) := by
  obtain ⟨b, c, rfl⟩ : ∃ b c, bs = b ++ [c] := ⟨bs.dropLast, bs.getLast h0, (List.dropLast_concat_getLast h0).symm⟩
  rw [List.length_append] at hl
  have h1 := body_some b s h9 (by simp at hl; omega)
  rw [List.append_assoc, feedP_run h1]
  have ht : take1P { s with bd := s.bd ++ b, lf := s.lf - (b.length : Int) } c = ({ s with bd := s.bd ++ b ++ [c], lf := 0 }, 0) := by
    unfold take1P
    have hs : start1 { s with bd := s.bd ++ b, lf := s.lf - (b.length : Int) } c = { s with bd := s.bd ++ b, lf := s.lf - (b.length : Int) } := by unfold start1; rw [if_neg (by simp only; omega)]
    rw [hs, if_neg (by simp only; omega)]
    unfold inBodyP
    rw [if_neg (by simp only; omega), if_neg (by simp only; omega), if_pos (.inl h9)]
    unfold body9
    rw [if_neg (by simp only; omega)]
    simp only [Prod.mk.injEq, and_true]
    congr 1
    simp at hl
    omega
  rw [List.singleton_append, feedP_last ht h9 rfl hc]
  simp only [reqOf, hc, List.append_assoc]
/-- A chunk's bytes, all of them. -/
theorem chunk_some (bs : List UInt8) : ∀ (s : PS), s.st = 12 → bs ≠ [] → s.lf = (bs.length : Int) → run s bs = some { s with bd := s.bd ++ bs, lf := 0, st := 13 } := by
  induction bs with
  | nil => intro s _ h _; exact absurd rfl h
  | cons c bs ih =>
    intro s h9 _ hl
    simp only [List.length_cons] at hl
    have ht : take1P s c = ({ s with bd := s.bd ++ [c], lf := s.lf - 1, st := if s.lf - 1 = 0 ∧ s.st = 12 then 13 else s.st }, 0) := by
      unfold take1P
      have hs : start1 s c = s := by unfold start1; rw [if_neg (by omega)]
      rw [hs, if_neg (by omega)]
      unfold inBodyP
      rw [if_neg (by omega), if_neg (by omega), if_pos (.inr h9)]
      rfl
    by_cases hb : bs = []
    · subst hb
      simp only [List.length_nil] at hl
      rw [if_pos ⟨by omega, h9⟩] at ht
      rw [run_cons ht (by simp)]
      simp only [run, Option.some.injEq]
      congr 1
      omega
    · have hpos := List.length_pos_iff.2 hb
      rw [if_neg (by omega)] at ht
      rw [run_cons ht (by simp only; omega)]
      rw [ih { s with bd := s.bd ++ [c], lf := s.lf - 1 } h9 hb (by simp only; omega)]
      simp only [List.append_assoc, List.singleton_append]
end Go.Proofs.YtjichadkonlfpaaDoor

namespace Go.Proofs.YtjichadkonlfpaaDoor
open Go.RowKit
theorem dig_isDig (n : Nat) (h : n < 10) : isDig (UInt8.ofNat (48 + n)) := by
  unfold isDig
  have : (UInt8.ofNat (48 + n)).toNat = 48 + n := by simp; omega
  omega
theorem dec_isDig : ∀ (k n : Nat), n < 10 ^ (k + 1) → ∀ c ∈ Lib.decDigits n, isDig c
  | 0, n, h, c, hc => by
    rw [Lib.decDigits, dif_pos (by omega)] at hc
    rw [List.mem_singleton.1 hc]
    exact dig_isDig n (by omega)
  | k + 1, n, h, c, hc => by
    rw [Lib.decDigits] at hc
    split at hc
    · rename_i h10
      rw [List.mem_singleton.1 hc]
      exact dig_isDig n h10
    · rcases List.mem_append.1 hc with hc | hc
      · exact dec_isDig k (n / 10) (by rw [Nat.pow_succ] at h; omega) c hc
      · rw [List.mem_singleton.1 hc]
        exact dig_isDig (n % 10) (by omega)
theorem dec_ne (n : Nat) : Lib.decDigits n ≠ [] := by
  rw [Lib.decDigits]
  split <;> simp
theorem dec_len : ∀ (k n : Nat), n < 10 ^ (k + 1) → (Lib.decDigits n).length ≤ k + 1
  | 0, n, h => by rw [Lib.decDigits, dif_pos (by omega)]; simp
  | k + 1, n, h => by
    rw [Lib.decDigits]
    split
    · simp
    · have h2 : n / 10 < 10 ^ (k + 1) := by rw [Nat.pow_succ] at h; omega
      have := dec_len k (n / 10) h2
      simp only [List.length_append, List.length_cons, List.length_nil]
      omega
theorem decFrom_app (b : List UInt8) : ∀ (a : List UInt8) (acc m : Nat), Lib.decFrom acc a = some m → Lib.decFrom acc (a ++ b) = Lib.decFrom m b
  | [], acc, m, h => by cases h; rfl
  | c :: a, acc, m, h => by
    rw [List.cons_append, Lib.decFrom]
    rw [Lib.decFrom] at h
    cases hd : Lib.digitVal c with
    | none => rw [hd] at h; cases h
    | some d => rw [hd] at h; exact decFrom_app b a _ m h
theorem digitVal_of (n : Nat) (h : n < 10) : Lib.digitVal (UInt8.ofNat (48 + n)) = some n := by
  have e : (UInt8.ofNat (48 + n)).toNat = 48 + n := by simp; omega
  unfold Lib.digitVal
  rw [e, if_pos (by omega)]
  congr 1
  omega
theorem decFrom_dec : ∀ (k n : Nat), n < 10 ^ (k + 1) → Lib.decFrom 0 (Lib.decDigits n) = some n
  | 0, n, h => by
    rw [Lib.decDigits, dif_pos (by omega), Lib.decFrom, digitVal_of n (by omega)]
    simp [Lib.decFrom]
  | k + 1, n, h => by
    rw [Lib.decDigits]
    split
    · rename_i h10
      rw [Lib.decFrom, digitVal_of n h10]
      simp [Lib.decFrom]
    · rw [decFrom_app _ _ _ _ (decFrom_dec k (n / 10) (by rw [Nat.pow_succ] at h; omega)), Lib.decFrom, digitVal_of (n % 10) (by omega)]
      simp only [Lib.decFrom, Option.some.injEq]
      omega
theorem drop_none {p : UInt8 → Bool} {l : List UInt8} (h : ∀ c ∈ l, p c = false) : l.dropWhile p = l := by
  cases l with
  | nil => rfl
  | cons c l => rw [List.dropWhile_cons, h c (by simp)]; rfl
theorem drop_all {p : UInt8 → Bool} : ∀ {l : List UInt8}, (∀ c ∈ l, p c = true) → l.dropWhile p = []
  | [], _ => rfl
  | c :: l, h => by rw [List.dropWhile_cons, h c (by simp)]; exact drop_all fun x hx => h x (by simp [hx])
theorem dig_blank {c : UInt8} (h : isDig c) : [(32 : UInt8), 9].contains c = false := by
  unfold isDig at h
  simp only [List.contains_eq_mem, List.mem_cons, List.not_mem_nil, or_false, decide_eq_false_iff_not, not_or]
  constructor <;> (intro e; subst e; simp at h)
theorem dig_digW {c : UInt8} (h : isDig c) : digW.contains c = true := by
  unfold isDig at h
  have h1 : ∀ n : Fin 256, 48 ≤ n.val ∧ n.val ≤ 57 → digW.contains (UInt8.ofNat n.val) = true := by decide +kernel
  have := h1 ⟨c.toNat, c.toNat_lt⟩ h
  simpa using this
theorem trim_digs {ds : List UInt8} (h : ∀ c ∈ ds, isDig c) : Lib.trimS (32 :: ds) [32, 9] = ds := by
  have hr : Lib.trimRightS (32 :: ds) [32, 9] = 32 :: ds ∨ ds = [] := by
    rcases List.eq_nil_or_concat ds with h0 | ⟨a, c, rfl⟩
    · exact .inr h0
    · left
      unfold Lib.trimRightS
      have hc := dig_blank (h c (by simp))
      rw [show (32 :: a.concat c).reverse = c :: (32 :: a).reverse from by simp]
      rw [List.dropWhile_cons]
      simp only [hc, Bool.false_eq_true, if_false]
      simp
  unfold Lib.trimS Lib.trimLeftS
  rcases hr with hr | hr
  · rw [hr, List.dropWhile_cons]
    have : [(32 : UInt8), 9].contains 32 = true := by decide
    rw [this, if_pos rfl]
    exact drop_none fun c hc => dig_blank (h c hc)
  · subst hr; decide
theorem bad_digs {ds : List UInt8} (h : ∀ c ∈ ds, isDig c) (h1 : ds ≠ []) (h9 : ds.length ≤ 9) : badSize ds = false := by
  have hp := List.length_pos_iff.2 h1
  have ht : Lib.trimS ds digW = [] := by
    unfold Lib.trimS Lib.trimLeftS Lib.trimRightS
    rw [drop_all (l := ds.reverse) (fun c hc => dig_digW (h c (by simpa using hc)))]
    rfl
  unfold badSize
  rw [ht]
  simp only [Bool.or_eq_false_iff, decide_eq_false_iff_not]
  exact ⟨by omega, by omega, rfl⟩
/-- A head's byte that leaves the head's states alone. -/
theorem take1_head {s s' : PS} {c : UInt8} (h2 : 2 ≤ s.st) (h8 : s.st ≤ 8) (h : inHeadP s c = (s', 0)) (hd : s'.hd < 2048) (h9 : s'.st ≠ 9) : take1P s c = ({ s' with hd := s'.hd + 1 }, 0) := by
  unfold take1P
  have hs : start1 s c = s := by unfold start1; rw [if_neg (by omega)]
  rw [hs, if_pos ⟨h2, h8⟩, h]
  unfold head1
  rw [if_neg (by simp), if_neg (by simp only; omega), if_neg h9]
/-- A space behind a target. -/
theorem space_target {s : PS} (h3 : s.st = 3) (hw : 0 < s.wd.length) (hd : s.hd < 2048) : run s [32] = some { s with t := s.wd, wd := [], st := 4, hd := s.hd + 1 } := by
  have hh : inHeadP s 32 = ({ s with t := s.wd, wd := [], st := 4 }, 0) := by
    unfold inHeadP
    rw [if_neg (by omega), if_pos h3]
    unfold head3
    have e3 : decide ((0 : Int) < (s.wd.length : Int)) = true := by simp; omega
    rw [e3]
    rfl
  exact run_one (take1_head (by omega) (by omega) hh hd (by simp)) (by simp)
end Go.Proofs.YtjichadkonlfpaaDoor

namespace Go.Proofs.YtjichadkonlfpaaDoor
open Go.RowKit
structure MadeV where
  path : Nat
  body : List UInt8
  ch : UInt8
  chd : Bool
  post : Bool
def methL (p : Bool) : List UInt8 := if p then [80, 79, 83, 84] else [71, 69, 84]
def hostL : List UInt8 := [32, 72, 84, 84, 80, 47, 49, 46, 49, 13, 10, 104, 111, 115, 116, 58, 32, 104, 13, 10]
def clL : List UInt8 := [99, 111, 110, 116, 101, 110, 116, 45, 108, 101, 110, 103, 116, 104, 58, 32]
def teL : List UInt8 := [84, 114, 97, 110, 115, 102, 101, 114, 45, 69, 110, 99, 111, 100, 105, 110, 103, 58, 32, 67, 72, 85, 78, 75, 69, 68, 13, 10, 13, 10]
def lowHex : List UInt8 := [48, 49, 50, 51, 52, 53, 54, 55, 56, 57, 97, 98, 99, 100, 101, 102]
def upHex : List UInt8 := [48, 49, 50, 51, 52, 53, 54, 55, 56, 57, 65, 66, 67, 68, 69, 70]
def MadeV.bd (m : MadeV) : List UInt8 := m.body.take 4096
def headL (m : MadeV) : List UInt8 := methL m.post ++ [32, 47] ++ Lib.decDigits m.path ++ hostL
def hex3 (n : Nat) : List UInt8 := [lowHex.getD (n / 256) 0, upHex.getD (n / 16 % 16) 0, lowHex.getD (n % 16) 0]
def chunksP (size : Nat) : Nat → List UInt8 → List UInt8
  | 0, _ => []
  | f + 1, b => if b = [] then [] else hex3 (min size b.length) ++ [13, 10] ++ b.take (min size b.length) ++ [13, 10] ++ chunksP size f (b.drop (min size b.length))
def wireP (m : MadeV) : List UInt8 :=
  if m.chd then headL m ++ teL ++ chunksP (1 + m.ch.toNat) m.bd.length m.bd ++ [48, 13, 10, 13, 10]
  else headL m ++ (if 0 < m.bd.length ∨ m.post = true then clL ++ Lib.decDigits m.bd.length ++ [13, 10] else []) ++ [13, 10] ++ m.bd
/-- Behind the head's first lines. -/
def S6 (M t : List UInt8) (K : Int) : PS := { st := 6, en := false, hd := K, wd := [], m := M, t := t, hs := [([104, 111, 115, 116], [104])], bd := [], cl := false, old := false, lf := 0 }
def S3 (M w : List UInt8) (K : Int) : PS := { st := 3, en := false, hd := K, wd := w, m := M, t := [], hs := [], bd := [], cl := false, old := false, lf := 0 }
def S4 (M t : List UInt8) (K : Int) : PS := { st := 4, en := false, hd := K, wd := [], m := M, t := t, hs := [], bd := [], cl := false, old := false, lf := 0 }
theorem run_meth (p : Bool) : run (zeroP false) (methL p ++ [32, 47]) = some (S3 (methL p) [47] ((methL p).length + 2)) := by
  cases p <;> kernel_rfl
theorem run_host (M t : List UInt8) (h : Nat) (h0 : 7 ≤ h) (h1 : h ≤ 12) : run (S4 M t (h : Int)) (hostL.drop 1) = some (S6 M t ((h + 19 : Nat) : Int)) := by
  obtain rfl | rfl | rfl | rfl | rfl | rfl : h = 7 ∨ h = 8 ∨ h = 9 ∨ h = 10 ∨ h = 11 ∨ h = 12 := by omega
  all_goals kernel_rfl
theorem methL_len (p : Bool) : 3 ≤ (methL p).length ∧ (methL p).length ≤ 4 := by cases p <;> decide
theorem run_head (m : MadeV) (hp : m.path < 65536) : ∃ K : Nat, 26 ≤ K ∧ K ≤ 31 ∧ run (zeroP false) (headL m) = some (S6 (methL m.post) (47 :: Lib.decDigits m.path) (K : Int)) := by
  have hd := dec_isDig 4 m.path (by omega)
  have hl := dec_len 4 m.path (by omega)
  have hn := List.length_pos_iff.2 (dec_ne m.path)
  have hm := methL_len m.post
  obtain ⟨ds, hds⟩ : ∃ ds, ds = Lib.decDigits m.path := ⟨_, rfl⟩
  rw [← hds] at hd hl hn
  refine ⟨(methL m.post).length + 2 + ds.length + 1 + 19, by omega, by omega, ?_⟩
  unfold headL
  rw [← hds]
  have h1 := run_meth m.post
  have h2 := digs_target ds hd (S3 (methL m.post) [47] ((methL m.post).length + 2)) rfl (by simp [S3]) (by simp only [S3]; omega) (by simp only [S3]; omega)
  have h3 := space_target (s := { S3 (methL m.post) [47] ((methL m.post).length + 2) with wd := [47] ++ ds, hd := ((methL m.post).length : Int) + 2 + (ds.length : Int) }) rfl (by simp) (by simp only; omega)
  have h4 := run_host (methL m.post) (47 :: ds) ((methL m.post).length + 2 + ds.length + 1) (by omega) (by omega)
  rw [show hostL = [32] ++ hostL.drop 1 from rfl, List.append_assoc, run_app h1, run_app h2]
  refine (run_app h3).trans ?_
  rw [← h4]
  congr 1
/-- Without a length. -/
theorem plain_none (M t l : List UInt8) (K : Nat) (h0 : 26 ≤ K) (h1 : K ≤ 31) : feedP (S6 M t (K : Int)) ([13, 10] ++ l) = ((feedP (zeroP false) l).1, ⟨M, t, [([104, 111, 115, 116], [104])], [], false⟩ :: (feedP (zeroP false) l).2.1, (feedP (zeroP false) l).2.2) := by
  have e : ∀ K : Nat, 26 ≤ K → K ≤ 31 → run (S6 M t (K : Int)) [13] = some { S6 M t ((K + 1 : Nat) : Int) with st := 8 } ∧ take1P { S6 M t ((K + 1 : Nat) : Int) with st := 8 } 10 = ({ S6 M t ((K + 2 : Nat) : Int) with st := 9 }, 0) := by
    intro K h0 h1
    obtain rfl | rfl | rfl | rfl | rfl | rfl : K = 26 ∨ K = 27 ∨ K = 28 ∨ K = 29 ∨ K = 30 ∨ K = 31 := by omega
    all_goals exact ⟨by kernel_rfl, by kernel_rfl⟩
  obtain ⟨e1, e2⟩ := e K h0 h1
  rw [show [13, 10] ++ l = [13] ++ (10 :: l) from rfl, feedP_run e1, feedP_last e2 rfl rfl rfl]
  rfl
end Go.Proofs.YtjichadkonlfpaaDoor

namespace Go.Proofs.YtjichadkonlfpaaDoor
open Go.RowKit
theorem inHead_5 {s : PS} {c : UInt8} (h : s.st = 5) : inHeadP s c = head5 s c := by unfold inHeadP; simp [h]
theorem inHead_6 {s : PS} {c : UInt8} (h : s.st = 6) : inHeadP s c = head6 s c := by unfold inHeadP; simp [h]
theorem inHead_7 {s : PS} {c : UInt8} (h : s.st = 7) : inHeadP s c = head7 s c := by unfold inHeadP; simp [h]
theorem inHead_8 {s : PS} {c : UInt8} (h : s.st = 8) : inHeadP s c = head8 s c := by unfold inHeadP; simp [h]
def SH (st H : Int) (M t : List UInt8) (hs : List (List UInt8 × List UInt8)) : PS := { st := st, en := false, hd := H, wd := [], m := M, t := t, hs := hs, bd := [], cl := false, old := false, lf := 0 }
def hsC (v : List UInt8) : List (List UInt8 × List UInt8) := [([104, 111, 115, 116], [104]), (clW, v)]
def S7 (M t w : List UInt8) (H : Int) : PS := { st := 7, en := false, hd := H, wd := w, m := M, t := t, hs := hsC [], bd := [], cl := false, old := false, lf := 0 }
theorem run_cl (M t : List UInt8) (K : Nat) (h0 : 26 ≤ K) (h1 : K ≤ 31) : run (S6 M t (K : Int)) clL = some (S7 M t [32] ((K + 16 : Nat) : Int)) := by
  obtain rfl | rfl | rfl | rfl | rfl | rfl : K = 26 ∨ K = 27 ∨ K = 28 ∨ K = 29 ∨ K = 30 ∨ K = 31 := by omega
  all_goals kernel_rfl
theorem whole_cl (H : Int) (M t ds : List UInt8) (hb : badSize ds = false) (n : Nat) (hn : numD ds = n) (h4 : n ≤ 4096) : wholeP (SH 9 H M t (hsC ds)) = ({ SH 9 H M t (hsC ds) with lf := (n : Int) }, 0) := by
  have v1 : valuesP (hsC ds) clW = [ds] := by kernel_rfl
  have v2 : valuesP (hsC ds) teW = [] := by kernel_rfl
  have v3 : valuesP (hsC ds) hostW = [[104]] := by kernel_rfl
  have v4 : valuesP (hsC ds) connW = [] := by kernel_rfl
  have hs : (SH 9 H M t (hsC ds)).hs = hsC ds := rfl
  unfold wholeP wholeNo wholeC
  rw [hs, v1, v2, v3, v4]
  rw [if_neg (by simp [SH])]
  unfold wholeT
  simp only [hb, Bool.false_eq_true, if_false]
  rw [hn, if_neg (by omega)]
  rfl
/-- A head with a length, its end, and the body behind it. -/
theorem plain_len (M t bs l : List UInt8) (K : Nat) (h0 : 26 ≤ K) (h1 : K ≤ 31) (hb : bs.length ≤ 4096) :
    feedP (S6 M t (K : Int)) (clL ++ Lib.decDigits bs.length ++ [13, 10] ++ [13, 10] ++ (bs ++ l)) = ((feedP (zeroP false) l).1, ⟨M, t, hsC (Lib.decDigits bs.length), bs, false⟩ :: (feedP (zeroP false) l).2.1, (feedP (zeroP false) l).2.2) := by
  obtain ⟨n, hn⟩ : ∃ n, n = bs.length := ⟨_, rfl⟩
  have hd := dec_isDig 3 n (by omega)
  have hl := dec_len 3 n (by omega)
  have hne := dec_ne n
  have hnum : numD (Lib.decDigits n) = n := by unfold numD; rw [decFrom_dec 3 n (by omega)]; rfl
  rw [← hn]
  obtain ⟨ds, hds⟩ : ∃ ds, ds = Lib.decDigits n := ⟨_, rfl⟩
  rw [← hds] at hd hl hne hnum ⊢
  have hbad := bad_digs hd hne (by omega)
  have r1 := run_cl M t K h0 h1
  have r2 := digs_value ds hd (S7 M t [32] ((K + 16 : Nat) : Int)) rfl (by simp only [S7]; omega) (by simp only [S7]; omega)
  obtain ⟨H, hH⟩ : ∃ H : Int, H = ((K + 16 : Nat) : Int) + (ds.length : Int) := ⟨_, rfl⟩
  have H0 : H ≤ 60 := by omega
  have r2' : run (S7 M t [32] ((K + 16 : Nat) : Int)) ds = some (S7 M t (32 :: ds) H) := by rw [r2, hH]; rfl
  have r3 : run (S7 M t (32 :: ds) H) [13] = some (SH 5 (H + 1) M t (hsC ds)) := by
    have hh : inHeadP (S7 M t (32 :: ds) H) 13 = (SH 5 H M t (hsC ds), 0) := by
      rw [inHead_7 rfl]
      unfold head7
      rw [if_neg (by decide), show (S7 M t (32 :: ds) H).wd = 32 :: ds from rfl, trim_digs hd]
      rfl
    exact run_one (take1_head (by simp [S7]) (by simp [S7]) hh (by simp only [SH]; omega) (by simp [SH])) (by simp [SH])
  have r4 : run (SH 5 (H + 1) M t (hsC ds)) [10] = some (SH 6 (H + 2) M t (hsC ds)) := by
    have hh : inHeadP (SH 5 (H + 1) M t (hsC ds)) 10 = (SH 6 (H + 1) M t (hsC ds), 0) := by
      rw [inHead_5 rfl]
      rfl
    have := run_one (take1_head (by simp [SH]) (by simp [SH]) hh (by simp only [SH]; omega) (by simp [SH])) (by simp [SH])
    rw [this]
    simp only [SH, Option.some.injEq]
    congr 1
    omega
  have r5 : run (SH 6 (H + 2) M t (hsC ds)) [13] = some (SH 8 (H + 3) M t (hsC ds)) := by
    have hh : inHeadP (SH 6 (H + 2) M t (hsC ds)) 13 = (SH 8 (H + 2) M t (hsC ds), 0) := by
      rw [inHead_6 rfl]
      rfl
    have := run_one (take1_head (by simp [SH]) (by simp [SH]) hh (by simp only [SH]; omega) (by simp [SH])) (by simp [SH])
    rw [this]
    simp only [SH, Option.some.injEq]
    congr 1
    omega
  have r6 : take1P (SH 8 (H + 3) M t (hsC ds)) 10 = ({ SH 9 (H + 4) M t (hsC ds) with lf := (n : Int) }, 0) := by
    have hh : inHeadP (SH 8 (H + 3) M t (hsC ds)) 10 = (SH 9 (H + 3) M t (hsC ds), 0) := by
      rw [inHead_8 rfl]
      rfl
    unfold take1P
    have hs : start1 (SH 8 (H + 3) M t (hsC ds)) 10 = SH 8 (H + 3) M t (hsC ds) := by unfold start1; rw [if_neg (by simp [SH])]
    rw [hs, if_pos ⟨by simp [SH], by simp [SH]⟩, hh]
    unfold head1
    rw [if_neg (by simp), if_neg (by simp only [SH]; omega), if_pos (show (SH 9 (H + 3) M t (hsC ds)).st = 9 from rfl)]
    have := whole_cl (H + 4) M t ds hbad n hnum (by omega)
    rw [← this]
    congr 1
    simp only [SH]
    congr 1
    omega
  rw [List.append_assoc, List.append_assoc, List.append_assoc, feedP_run r1, feedP_run r2', show [13, 10] ++ ([13, 10] ++ (bs ++ l)) = [13] ++ ([10] ++ ([13] ++ (10 :: (bs ++ l)))) from rfl, feedP_run r3, feedP_run r4, feedP_run r5]
  by_cases hz : bs = []
  · subst hz
    rw [List.length_nil] at hn
    subst hn
    rw [feedP_last r6 rfl rfl rfl]
    rfl
  · have hpos := List.length_pos_iff.2 hz
    rw [show (10 :: (bs ++ l)) = [10] ++ (bs ++ l) from rfl, feedP_run (run_one r6 (by simp only; omega))]
    rw [body_all (s := { SH 9 (H + 4) M t (hsC ds) with lf := (n : Int) }) rfl (by simp only; omega) hz rfl]
    rfl
end Go.Proofs.YtjichadkonlfpaaDoor

namespace Go.Proofs.YtjichadkonlfpaaDoor
open Go.RowKit
def hsT : List (List UInt8 × List UInt8) := [([104, 111, 115, 116], [104]), (teW, [67, 72, 85, 78, 75, 69, 68])]
def SC (M t : List UInt8) (H : Int) (B : List UInt8) : PS := { st := 10, en := false, hd := H, wd := [], m := M, t := t, hs := hsT, bd := B, cl := false, old := false, lf := 0 }
theorem run_te (M t : List UInt8) (K : Nat) (h0 : 26 ≤ K) (h1 : K ≤ 31) : run (S6 M t (K : Int)) teL = some (SC M t ((K + 30 : Nat) : Int) []) := by
  obtain rfl | rfl | rfl | rfl | rfl | rfl : K = 26 ∨ K = 27 ∨ K = 28 ∨ K = 29 ∨ K = 30 ∨ K = 31 := by omega
  all_goals kernel_rfl
theorem take1_body {s : PS} {c : UInt8} (h : 8 < s.st) : take1P s c = inBodyP s c := by
  unfold take1P
  have hs : start1 s c = s := by unfold start1; rw [if_neg (by omega)]
  rw [hs, if_neg (by omega)]
theorem inBody_10 {s : PS} {c : UInt8} (h : s.st = 10) : inBodyP s c = body10 s c := by unfold inBodyP; simp [h]
theorem inBody_11 {s : PS} {c : UInt8} (h : s.st = 11) : inBodyP s c = body11 s c := by unfold inBodyP; simp [h]
theorem inBody_13 {s : PS} {c : UInt8} (h : s.st = 13) : inBodyP s c = expectP s c 13 14 := by unfold inBodyP; simp [h]
theorem inBody_14 {s : PS} {c : UInt8} (h : s.st = 14) : inBodyP s c = body14 s c := by unfold inBodyP; simp [h]
theorem st_hex {s : PS} {c : UInt8} (h : s.st = 10) (hx : hexB c = true) (hc : c ≠ 13) (hw : s.wd.length < 6) : take1P s c = ({ s with wd := s.wd ++ [c] }, 0) := by
  rw [take1_body (by omega), inBody_10 h]
  unfold body10
  have e : ((c.toNat : Int) == 13) = false := by
    simp only [beq_eq_false_iff_ne, ne_eq]
    intro e
    exact hc (UInt8.toNat_inj.1 (by show c.toNat = 13; omega))
  rw [e, Bool.false_and, if_neg (by decide), hx]
  have e2 : decide ((s.wd.length : Int) < 6) = true := by simp; omega
  rw [e2]
  rfl
theorem st_cr {s : PS} (h : s.st = 10) (hw : 0 < s.wd.length) : take1P s 13 = ({ s with lf := (hexN s.wd : Int), wd := [], st := 11 }, 0) := by
  rw [take1_body (by omega), inBody_10 h]
  unfold body10
  have e2 : decide ((0 : Int) < (s.wd.length : Int)) = true := by simp; omega
  rw [e2, if_pos (by decide)]
theorem st_lf {s : PS} (h : s.st = 11) (hl : s.lf + (s.bd.length : Int) ≤ 4096) : take1P s 10 = (if s.lf = 0 then { s with st := 13, lf := -1 } else { s with st := 12 }, 0) := by
  rw [take1_body (by omega), inBody_11 h]
  unfold body11
  have e2 : decide (4096 < s.lf + (s.bd.length : Int)) = false := by simp; omega
  rw [if_neg (by decide), e2, if_neg (by decide)]
  by_cases h0 : s.lf = 0
  · rw [if_pos (by simpa using h0), if_pos h0]
  · rw [if_neg (by simpa using h0), if_neg h0]
theorem st_cr2 {s : PS} (h : s.st = 13) : take1P s 13 = ({ s with st := 14 }, 0) := by
  rw [take1_body (by omega), inBody_13 h]; rfl
theorem st_lf2 {s : PS} (h : s.st = 14) : take1P s 10 = ({ s with lf := 0, st := if s.lf < 0 then 9 else 10 }, 0) := by
  rw [take1_body (by omega), inBody_14 h]; rfl
theorem hex3_ok : ∀ n : Fin 257, (∀ c ∈ hex3 n.val, hexB c = true ∧ c ≠ 13) ∧ hexN (hex3 n.val) = n.val := by decide +kernel
theorem run_chunk (M t : List UInt8) (H : Int) (B bs : List UInt8) (h1 : 1 ≤ bs.length) (h2 : bs.length ≤ 256) (h3 : B.length + bs.length ≤ 4096) : run (SC M t H B) (hex3 bs.length ++ [13, 10] ++ bs ++ [13, 10]) = some (SC M t H (B ++ bs)) := by
  obtain ⟨n, hn⟩ : ∃ n, n = bs.length := ⟨_, rfl⟩
  rw [← hn]
  obtain ⟨hx, hv⟩ := hex3_ok ⟨n, by omega⟩
  simp only at hx hv
  obtain ⟨a, b, c, habc⟩ : ∃ a b c, hex3 n = [a, b, c] := ⟨_, _, _, rfl⟩
  rw [habc] at hx hv ⊢
  have ha := hx a (by simp)
  have hb := hx b (by simp)
  have hc := hx c (by simp)
  have r1 : run (SC M t H B) [a] = some { SC M t H B with wd := [a] } := run_one (st_hex rfl ha.1 ha.2 (by simp [SC])) (by simp [SC])
  have r2 : run { SC M t H B with wd := [a] } [b] = some { SC M t H B with wd := [a, b] } := run_one (st_hex rfl hb.1 hb.2 (by simp)) (by simp [SC])
  have r3 : run { SC M t H B with wd := [a, b] } [c] = some { SC M t H B with wd := [a, b, c] } := run_one (st_hex rfl hc.1 hc.2 (by simp)) (by simp [SC])
  have r4 : run { SC M t H B with wd := [a, b, c] } [13] = some { SC M t H B with lf := (n : Int), st := 11 } := by
    have e := st_cr (s := { SC M t H B with wd := [a, b, c] }) rfl (by simp)
    rw [show (({ SC M t H B with wd := [a, b, c] } : PS).wd) = [a, b, c] from rfl, hv] at e
    exact run_one e (by simp)
  have r5 : run { SC M t H B with lf := (n : Int), st := 11 } [10] = some { SC M t H B with lf := (n : Int), st := 12 } := by
    have e := st_lf (s := { SC M t H B with lf := (n : Int), st := 11 }) rfl (by simp only [SC]; omega)
    rw [if_neg (by simp only; omega)] at e
    exact run_one e (by simp)
  have r6 := chunk_some bs { SC M t H B with lf := (n : Int), st := 12 } rfl (by intro e; rw [e] at h1; simp at h1) (by simp only; omega)
  have r7 : run { SC M t H B with bd := B ++ bs, lf := 0, st := 13 } [13] = some { SC M t H B with bd := B ++ bs, lf := 0, st := 14 } := run_one (st_cr2 rfl) (by simp)
  have r8 : run { SC M t H B with bd := B ++ bs, lf := 0, st := 14 } [10] = some (SC M t H (B ++ bs)) := by
    have e := st_lf2 (s := { SC M t H B with bd := B ++ bs, lf := 0, st := 14 }) rfl
    rw [if_neg (by simp)] at e
    exact run_one e (by simp [SC])
  rw [show [a, b, c] ++ [13, 10] ++ bs ++ [13, 10] = [a] ++ ([b] ++ ([c] ++ ([13] ++ ([10] ++ (bs ++ ([13] ++ [10])))))) from by simp]
  rw [run_app r1, run_app r2, run_app r3, run_app r4, run_app r5]
  refine (run_app r6).trans ?_
  refine (run_app r7).trans r8
theorem run_chunks (M t : List UInt8) (H : Int) (size : Nat) (h1 : 1 ≤ size) (h2 : size ≤ 256) : ∀ (f : Nat) (body B : List UInt8), body.length ≤ f → B.length + body.length ≤ 4096 → run (SC M t H B) (chunksP size f body) = some (SC M t H (B ++ body))
  | 0, body, B, hf, _ => by
    have : body = [] := List.eq_nil_of_length_eq_zero (by omega)
    subst this
    simp [chunksP, run]
  | f + 1, body, B, hf, hB => by
    rw [chunksP]
    by_cases hz : body = []
    · rw [if_pos hz, hz]; simp [run]
    · have hpos := List.length_pos_iff.2 hz
      rw [if_neg hz]
      have ht : (body.take (min size body.length)).length = min size body.length := by rw [List.length_take]; omega
      have r1 := run_chunk M t H B (body.take (min size body.length)) (by omega) (by omega) (by omega)
      rw [ht] at r1
      rw [run_app r1]
      rw [run_chunks M t H size h1 h2 f (body.drop (min size body.length)) (B ++ body.take (min size body.length)) (by rw [List.length_drop]; omega) (by rw [List.length_append, ht, List.length_drop]; omega)]
      rw [List.append_assoc, List.take_append_drop]
theorem last_chunk (M t : List UInt8) (H : Int) (B l : List UInt8) (hB : B.length ≤ 4096) : feedP (SC M t H B) ([48, 13, 10, 13, 10] ++ l) = ((feedP (zeroP false) l).1, ⟨M, t, hsT, B, false⟩ :: (feedP (zeroP false) l).2.1, (feedP (zeroP false) l).2.2) := by
  have r1 : run (SC M t H B) [48] = some { SC M t H B with wd := [48] } := run_one (st_hex rfl (by decide) (by decide) (by simp [SC])) (by simp [SC])
  have r4 : run { SC M t H B with wd := [48] } [13] = some { SC M t H B with lf := 0, st := 11 } := by
    have e := st_cr (s := { SC M t H B with wd := [48] }) rfl (by simp)
    rw [show (({ SC M t H B with wd := [48] } : PS).wd) = [48] from rfl, show hexN [48] = 0 from by decide] at e
    exact run_one e (by simp)
  have r5 : run { SC M t H B with lf := 0, st := 11 } [10] = some { SC M t H B with lf := -1, st := 13 } := by
    have e := st_lf (s := { SC M t H B with lf := 0, st := 11 }) rfl (by simp only [SC]; omega)
    rw [if_pos rfl] at e
    exact run_one e (by simp)
  have r7 : run { SC M t H B with lf := -1, st := 13 } [13] = some { SC M t H B with lf := -1, st := 14 } := run_one (st_cr2 rfl) (by simp)
  have e := st_lf2 (s := { SC M t H B with lf := -1, st := 14 }) rfl
  rw [if_pos (by simp)] at e
  rw [show [48, 13, 10, 13, 10] ++ l = [48] ++ ([13] ++ ([10] ++ ([13] ++ (10 :: l)))) from rfl, feedP_run r1, feedP_run r4, feedP_run r5, feedP_run r7, feedP_last e rfl rfl rfl]
  rfl
/-- THE LAW: what is made comes out as it was made. -/
theorem feed_made (m : MadeV) (hp : m.path < 65536) (l : List UInt8) : ∃ hs, feedP (zeroP false) (wireP m ++ l) = ((feedP (zeroP false) l).1, ⟨methL m.post, 47 :: Lib.decDigits m.path, hs, m.bd, false⟩ :: (feedP (zeroP false) l).2.1, (feedP (zeroP false) l).2.2) := by
  obtain ⟨K, k0, k1, hK⟩ := run_head m hp
  have hb : m.bd.length ≤ 4096 := by unfold MadeV.bd; rw [List.length_take]; omega
  unfold wireP
  by_cases hc : m.chd = true
  · rw [if_pos hc]
    have hch := m.ch.toNat_lt
    rw [List.append_assoc, List.append_assoc, List.append_assoc, feedP_run hK, feedP_run (run_te _ _ K k0 k1), feedP_run (run_chunks _ _ _ (1 + m.ch.toNat) (by omega) (by omega) m.bd.length m.bd [] (Nat.le_refl _) (by simpa using hb))]
    rw [List.nil_append, last_chunk _ _ _ _ _ hb]
    exact ⟨_, rfl⟩
  · rw [if_neg hc]
    by_cases hz : 0 < m.bd.length ∨ m.post = true
    · rw [if_pos hz]
      rw [List.append_assoc, List.append_assoc, List.append_assoc, feedP_run hK]
      have := plain_len (methL m.post) (47 :: Lib.decDigits m.path) m.bd l K k0 k1 hb
      rw [List.append_assoc] at this
      exact ⟨_, this⟩
    · rw [if_neg hz]
      have hnil : m.bd = [] := List.eq_nil_of_length_eq_zero (by omega)
      rw [hnil, List.append_nil, List.append_nil, List.append_assoc, feedP_run hK, plain_none _ _ _ K k0 k1]
      exact ⟨_, rfl⟩
end Go.Proofs.YtjichadkonlfpaaDoor
