/- A crash, byte by byte. No conditions. -/
import Derived.Test.YtdggibigfocadaaE5
namespace Go.Proofs.Ytdggibigfocadaa
open Go.RowKit
variable {w w' w0 : World} {base g : Nat} {own : Nat → Prop} {s : DS} {S P : Value}
def hit (c : UInt8) (j : Nat) : Prop := c = 1 ∨ (c = 2 ∧ j < 32) ∨ (c = 3 ∧ 32 ≤ j)
def mix (c : UInt8) (old d : List UInt8) (j : Nat) : List UInt8 := (crash1 c old d).take j ++ old.drop j
theorem crash1_len {c : UInt8} {old d : List UInt8} (ho : old.length = 64) (hd : d.length = 64) : (crash1 c old d).length = 64 := by
  unfold crash1
  split
  · exact hd
  · split
    · simp [ho, hd]
    · split
      · simp [ho, hd]
      · exact ho
theorem crash1_hit {c : UInt8} {old d : List UInt8} (ho : old.length = 64) (hd : d.length = 64) {j : Nat} (h : hit c j) : (crash1 c old d)[j]? = d[j]? := by
  rcases h with rfl | ⟨rfl, hj⟩ | ⟨rfl, hj⟩
  · rfl
  · show (d.take 32 ++ old.drop 32)[j]? = _
    rw [List.getElem?_append_left (by simp [hd]; omega), List.getElem?_take_of_lt hj]
  · show (old.take 32 ++ d.drop 32)[j]? = _
    rw [List.getElem?_append_right (by simp [ho]; omega), List.getElem?_drop]
    congr 1
    simp [ho]
    omega
theorem crash1_miss {c : UInt8} {old d : List UInt8} (ho : old.length = 64) (hd : d.length = 64) {j : Nat} (h : ¬ hit c j) : (crash1 c old d)[j]? = old[j]? := by
  unfold hit at h
  unfold crash1
  by_cases h1 : c = 1
  · exact absurd (.inl h1) h
  · rw [if_neg h1]
    by_cases h2 : c = 2
    · have hj : 32 ≤ j := by
        rcases Nat.lt_or_ge j 32 with h' | h'
        · exact absurd (.inr (.inl ⟨h2, h'⟩)) h
        · exact h'
      rw [if_pos h2, List.getElem?_append_right (by simp [hd]; omega), List.getElem?_drop]
      congr 1
      simp [hd]
      omega
    · rw [if_neg h2]
      by_cases h3 : c = 3
      · have hj : j < 32 := by
          rcases Nat.lt_or_ge j 32 with h' | h'
          · exact h'
          · exact absurd (.inr (.inr ⟨h3, h'⟩)) h
        rw [if_pos h3, List.getElem?_append_left (by simp [ho]; omega), List.getElem?_take_of_lt hj]
      · rw [if_neg h3]
theorem mix_len {c : UInt8} {old d : List UInt8} (ho : old.length = 64) (hd : d.length = 64) {j : Nat} (hj : j ≤ 64) : (mix c old d j).length = 64 := by
  unfold mix
  rw [List.length_append, List.length_take, List.length_drop, crash1_len ho hd, ho]
  omega
theorem mix_zero (c : UInt8) (old d : List UInt8) : mix c old d 0 = old := rfl
theorem mix_all {c : UInt8} {old d : List UInt8} (ho : old.length = 64) (hd : d.length = 64) : mix c old d 64 = crash1 c old d := by
  unfold mix
  rw [List.take_of_length_le (by rw [crash1_len ho hd]; exact Nat.le_refl _), List.drop_eq_nil_of_le (by omega), List.append_nil]
theorem mix_step {c : UInt8} {old d : List UInt8} (ho : old.length = 64) (hd : d.length = 64) {j : Nat} {x : UInt8} (hj : j < 64) (hx : (crash1 c old d)[j]? = some x) :
    mix c old d (j + 1) = (mix c old d j).take j ++ ([x] ++ (mix c old d j).drop (j + 1)) := by
  have hl := crash1_len (c := c) ho hd
  have ht : ((crash1 c old d).take j).length = j := by rw [List.length_take]; omega
  have h1 : (mix c old d j).take j = (crash1 c old d).take j := by
    unfold mix
    have := List.take_length_add_append (l₁ := (crash1 c old d).take j) (l₂ := old.drop j) 0
    rw [ht, Nat.add_zero] at this
    rw [this]
    simp
  have h2 : (mix c old d j).drop (j + 1) = old.drop (j + 1) := by
    unfold mix
    have := List.drop_length_add_append (l₁ := (crash1 c old d).take j) (l₂ := old.drop j) 1
    rw [ht] at this
    rw [this, List.drop_drop]
  rw [h1, h2]
  unfold mix
  rw [List.take_add_one, hx, Option.toList_some, List.append_assoc]
theorem mix_hit {c : UInt8} {old d : List UInt8} (ho : old.length = 64) (hd : d.length = 64) {j : Nat} {x : UInt8} (hj : j < 64) (hx : d[j]? = some x) (h : hit c j) : mix c old d (j + 1) = (mix c old d j).take j ++ ([x] ++ (mix c old d j).drop (j + 1)) :=
  mix_step ho hd hj ((crash1_hit ho hd h).trans hx)
theorem mix_miss {c : UInt8} {old d : List UInt8} (ho : old.length = 64) (hd : d.length = 64) {j : Nat} (hj : j < 64) (h : ¬ hit c j) : mix c old d (j + 1) = mix c old d j := by
  have hlt : j < old.length := by omega
  have hx : old[j]? = some old[j] := List.getElem?_eq_getElem hlt
  unfold mix
  rw [List.take_add_one, (crash1_miss ho hd h).trans hx, Option.toList_some, List.append_assoc]
  congr 1
  exact (List.drop_eq_getElem_cons hlt).symm
/-- The disk in the midst of a crash: at the k-th waiting write, j bytes of it done. -/
def DS.mid (s : DS) (ch : List UInt8) (k : Nat) (n : Nat) (x : List UInt8) : DS := { s.crash ch k with secs := (s.crash ch k).secs.set n x }
theorem mid_same {ch : List UInt8} {k n : Nat} {d0 : List UInt8} (h : (s.crash ch k).secs[n]? = some d0) : s.mid ch k n d0 = s.crash ch k := by
  unfold DS.mid
  rw [set_same h]
theorem mid_end {ch : List UInt8} {k : Nat} {p : Nat × List UInt8} {d0 : List UInt8} (hp : s.pend[k]? = some p) (h : (s.crash ch k).secs[p.1]? = some d0) :
    s.crash ch (k + 1) = s.mid ch k p.1 (crash1 (ch.getD k 0) d0 p.2) := by
  have hgd : (s.crash ch k).secs.getD p.1 [] = d0 := by rw [List.getD_eq_getElem?_getD, h]; rfl
  rcases Nat.lt_or_ge k ch.length with hk | hk
  · have hc : ch[k]? = some ch[k] := List.getElem?_eq_getElem hk
    have hcd : ch.getD k 0 = ch[k] := by rw [List.getD_eq_getElem?_getD, hc]; rfl
    rw [crash_succ hp hc, hgd, hcd]
    rfl
  · have hcd : ch.getD k 0 = 0 := by rw [List.getD_eq_getElem?_getD, List.getElem?_eq_none hk]; rfl
    rw [hcd, show crash1 0 d0 p.2 = d0 from rfl, mid_same h]
    unfold DS.crash
    have hz : (s.pend.zip ch).length ≤ k := by rw [List.length_zip]; omega
    rw [List.take_of_length_le (by omega), List.take_of_length_le hz]
theorem restE_end {wr : World} {ch : List UInt8} (hD : Rdk wr base own g (s.crash ch s.pend.length) S P) (hT : Turns own w wr) :
    AfterE base g own (s.restart ch) w (((wr.setCell ⟨g, 1, none⟩ (.slice none 0 0)).setCell ⟨g, 3, none⟩ (.int .i64 (-1))).setCell ⟨g, 4, none⟩ (.bool false)) := by
  obtain ⟨h1, h2, h3⟩ := hD.repend (w5 := wr) (v := .slice none 0 0) (l := []) ⟨rfl, rfl, rfl, Nat.le_refl _, fun _ _ _ => rfl⟩ (World.ownsRow_nil _ _ _ 65) (.inl rfl) (fun p hp => by cases hp)
  have h4 := h1.put (i := 3) (v := .int .i64 (-1)) (s' := { s.crash ch s.pend.length with pend := [], lit := false }) rfl rfl rfl
  have h5 := h4.1.put (i := 4) (v := .bool false) (s' := { s.crash ch s.pend.length with pend := [], lit := false, down := false }) rfl rfl rfl
  have hT' : ∀ {a b : World}, Turns (fun k => own k ∨ (Value.slice none 0 0).ownBlock = some k) a b → Turns own a b := fun ht => ⟨ht.os, ht.tape, ht.output, ht.size, fun k hk hn => ht.block k hk (fun e => by
    rcases e with e | e
    · exact hn e
    · cases e)⟩
  refine ⟨_, S, .slice none 0 0, by rw [crash_end s ch s.pend.length (.inl rfl)]; exact h5.1, hT.trans (h2.trans ((hT' h4.2).trans (hT' h5.2))), fun k hk => (h3 k hk).imp id fun hk => by have := hT.size; omega⟩
end Go.Proofs.Ytdggibigfocadaa
