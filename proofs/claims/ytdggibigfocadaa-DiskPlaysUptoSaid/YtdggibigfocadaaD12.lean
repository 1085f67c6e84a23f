/- The walk of SetFuse; a part of a sector is written. No conditions. -/
import Derived.Test.YtdggibigfocadaaD10
namespace Go.Proofs.Ytdggibigfocadaa
open Go.RowKit
variable {w w' w0 : World} {base g : Nat} {own : Nat → Prop} {s : DS} {S P : Value} {H : List (Nat × Obj)}
def DS.setFuse (s : DS) (n : Int) : DS := { s with lit := decide (0 ≤ n), fuse := n }
set_option maxRecDepth 100000 in
set_option maxHeartbeats 1000000 in
theorem SetFuse_any (h : Dsk w base own g s S P) (n : Int) : Calls Try.prog 18 #[.pointer (some ⟨g, 0, none⟩), .int .i64 n] w fun e w' => e = .returned (.tuple #[]) ∧ Dsk w' base own g (s.setFuse n) S P ∧ Turns own w w' := by
  have h4 := h.put (i := 4) (v := .bool (decide (0 ≤ n))) (s' := { s with lit := decide (0 ≤ n) }) rfl rfl rfl
  have h5 := h4.1.put (i := 5) (v := .int .i64 n) (s' := s.setFuse n) rfl rfl rfl
  have f4 := h.field (i := 4) rfl
  have f5 := h.field (i := 5) rfl
  have hfz := h.unfrozen
  obtain ⟨b, hb⟩ : ∃ b, decide (0 ≤ n) = b := ⟨_, rfl⟩
  rw [hb] at h4 h5
  have H4 := Lib.hid h4
  have H5 := Lib.hid h5
  clear h4 h5
  go_enter Try.func18, Try.ntmps18
  go_wp2
  first
    | go_end0
    | (refine bodyPost_ret (results_none rfl _ _ _) rfl ?_)
  exact ⟨rfl, H5.out.1, H4.out.2.trans H5.out.2⟩
theorem bvs_take (l : List UInt8) (k : Nat) : bvs (l.take k) = (bvs l).take k := by simp [bvs]
theorem layL_part (pre old post e : List Value) (o : Nat) (ho : o + e.length ≤ old.length) : layL (pre ++ (old ++ post)) (pre.length + o) e = pre ++ (old.take o ++ (e ++ (old.drop (o + e.length) ++ post))) := by
  rw [layL_behind]
  congr 1
  have h1 : old ++ post = old.take o ++ (((old.drop o).take e.length) ++ (old.drop (o + e.length) ++ post)) := by
    rw [← List.append_assoc ((old.drop o).take e.length), show old.drop (o + e.length) = (old.drop o).drop e.length from by rw [List.drop_drop], List.take_append_drop, ← List.append_assoc, List.take_append_drop]
  have h2 : (old.take o).length = o := by rw [List.length_take]; omega
  rw [h1]
  have h3 := layL_behind e (old.take o) (((old.drop o).take e.length) ++ (old.drop (o + e.length) ++ post)) 0
  rw [h2, Nat.add_zero] at h3
  rw [h3, layL_front e _ _ (by rw [List.length_take, List.length_drop]; omega)]
theorem cellsS_split (l : List (List UInt8)) (k : Nat) (d : List UInt8) (h : l[k]? = some d) : cellsS l = cellsS (l.take k) ++ (bvs d ++ cellsS (l.drop (k + 1))) := by
  have hlt : k < l.length := by
    rcases Nat.lt_or_ge k l.length with h' | h'
    · exact h'
    · rw [List.getElem?_eq_none h'] at h; cases h
  have hd : l[k] = d := by rw [List.getElem?_eq_getElem hlt] at h; exact Option.some.inj h
  have h1 : l = l.take k ++ d :: l.drop (k + 1) := by
    rw [← hd, List.getElem_cons_drop, List.take_append_drop]
  have h2 : cellsS l = cellsS (l.take k ++ d :: l.drop (k + 1)) := by rw [← h1]
  rw [h2]
  simp [cellsS]
theorem cellsS_length (l : List (List UInt8)) (h : ∀ x ∈ l, x.length = 64) : (cellsS l).length = l.length * 64 := by
  induction l with
  | nil => rfl
  | cons x t ih =>
    have h1 : cellsS (x :: t) = bvs x ++ cellsS t := rfl
    rw [h1, List.length_append, bvs_length, h x (by simp), ih (fun y hy => h y (by simp [hy])), List.length_cons]
    omega
/-- A part of a sector is written. -/
theorem Dsk.secPart (h : Dsk w base own g s S P) {k o gS c : Nat} {old e : List UInt8} (hS : S = .slice (some ⟨gS, 0, none⟩) s.secs.length c) (hk : s.secs[k]? = some old) (ho : o + e.length ≤ 64) :
    Dsk (w.setCells gS (k * 64 + o) (bvs e)) base own g { s with secs := s.secs.set k (old.take o ++ (e ++ old.drop (o + e.length))) } S P ∧ Turns own w (w.setCells gS (k * 64 + o) (bvs e)) := by
  have hlt : k < s.secs.length := by
    rcases Nat.lt_or_ge k s.secs.length with h' | h'
    · exact h'
    · rw [List.getElem?_eq_none h'] at hk; cases hk
  have hol : old.length = 64 := h.ok.secs old (List.mem_of_getElem? hk)
  have hrow := h.rowS
  rw [hS] at hrow
  obtain ⟨h1, h2⟩ := stored_many (bvs e) (k * 64 + o) w _ hrow
  have hg : own gS := h.ownS _ (by rw [hS]; rfl)
  have hsz := heap_size_setCells gS (bvs e) (k * 64 + o) w
  have hSb : S.ownBlock = some gS := by rw [hS]; rfl
  have hgg : gS ≠ g := fun e => h.gS (by rw [hSb, e])
  have hnew : (old.take o ++ (e ++ old.drop (o + e.length))).length = 64 := by simp [hol]; omega
  refine ⟨⟨⟨?_, ?_, ?_⟩, ?_, ?_, ?_, h.ownG, h.ownS, h.ownP, ?_, h.gS, h.gP, h.sP⟩, ⟨h2.os, h2.tape, h2.output, by rw [hsz]; exact Nat.le_refl _, fun k hk hn => h2.block k hk (fun e => hn (by cases e; exact hg))⟩⟩
  · intro l hl
    rcases List.mem_or_eq_of_mem_set hl with hl | rfl
    · exact h.ok.secs l hl
    · exact hnew
  · intro p hp
    rw [List.length_set]
    exact h.ok.pend p hp
  · rw [List.length_set]; exact h.ok.max
  · exact (h2.block g h.lt (fun e => hgg (by cases e; rfl))).trans h.blk
  · have hpl : (cellsS (s.secs.take k)).length = k * 64 := by
      rw [cellsS_length _ (fun x hx => h.ok.secs x (List.mem_of_mem_take hx)), List.length_take]
      congr 1; omega
    have h3 : (s.secs.set k (old.take o ++ (e ++ old.drop (o + e.length)))).take k = s.secs.take k := by rw [List.take_set_of_le (Nat.le_refl k)]
    have h4 : (s.secs.set k (old.take o ++ (e ++ old.drop (o + e.length)))).drop (k + 1) = s.secs.drop (k + 1) := by rw [List.drop_set_of_lt (by omega)]
    have hlay : layL (cellsS s.secs) (k * 64 + o) (bvs e) = cellsS (s.secs.set k (old.take o ++ (e ++ old.drop (o + e.length)))) := by
      rw [cellsS_split s.secs k old hk, ← hpl, layL_part _ _ _ _ _ (by rw [bvs_length, bvs_length, hol]; exact ho), cellsS_split (s.secs.set k _) k _ (List.getElem?_set_self hlt), h3, h4]
      congr 1
      simp [bvs]
    rw [List.length_set, ← hlay, hS]
    exact h1
  · refine World.ownsRow.kept h.rowP h2 ?_
    rcases h.sP with e | e
    · rw [e] at hSb; cases hSb
    · exact .inr (fun e' => e (by rw [e', hSb]))
  · intro k hk
    rw [hsz]
    exact h.bnd k hk
end Go.Proofs.Ytdggibigfocadaa
