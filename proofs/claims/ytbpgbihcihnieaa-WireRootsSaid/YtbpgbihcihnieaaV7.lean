/- wire: fields, one by one. No conditions. -/
import Derived.Test.YtbpgbihcihnieaaV6a
namespace Go.Proofs.Ytbpgbihcihnieaa
open Go.RowKit
/-- Cells that read as a list of bytes, in blocks from lo on and below hi. -/
def RdI (lo hi : Nat) (w : World) (A : Option Addr) (xs : List Value) : Prop := 0 < xs.length → ∃ b off, A = some ⟨b, off, none⟩ ∧ lo ≤ b ∧ b < hi ∧ ∀ j u, xs[j]? = some u → w.cell? ⟨b, off + j, none⟩ = some u
theorem RdI.keep {lo hi : Nat} {w w' : World} {A : Option Addr} {xs : List Value} {ps : List Nat} (h : RdI lo hi w A xs) (hf : Frm ps w w') (hhi : hi ≤ w.heap.size) (hp : ∀ p ∈ ps, p < lo ∨ hi ≤ p) : RdI lo hi w' A xs := fun h0 => by
  obtain ⟨b, off, rfl, h1, h2, h3⟩ := h h0
  refine ⟨b, off, rfl, h1, h2, fun j u hu => ?_⟩
  have h4 := hf.block b (by omega) (fun hb => by have := hp b hb; omega)
  rw [World.cell?_of_block (a := ⟨b, off + j, none⟩) h4]
  exact h3 j u hu
theorem RdI.reads {lo hi : Nat} {w : World} {A : Option Addr} {l : List UInt8} (h : RdI lo hi w A (bvs l)) (hhi : hi ≤ w.heap.size) : Reads w w.heap.size 1 A l.length (bvs l) := by
  refine ⟨by simp [bvs_length], fun h0 => ?_⟩
  obtain ⟨b, off, rfl, h1, h2, h3⟩ := h (by rw [bvs_length]; exact h0)
  exact ⟨_, rfl, by show b < _; omega, fun j u hu => by rw [add_none]; exact h3 j u hu⟩
/-- Items of a list, from an offset on. -/
def ItI (lo hi : Nat) (w : World) (A : Option Addr) (ls : List (List UInt8)) : Prop := 0 < ls.length → ∃ b off, A = some ⟨b, off, none⟩ ∧ lo ≤ b ∧ b < hi ∧ ∀ (k : Nat) (hk : k < ls.length), ∃ A' c', w.cell? ⟨b, off + k, none⟩ = some (.slice A' ls[k].length c') ∧ ls[k].length ≤ c' ∧ RdI lo hi w A' (bvs ls[k])
theorem ItI.keep {lo hi : Nat} {w w' : World} {A : Option Addr} {ls : List (List UInt8)} {ps : List Nat} (h : ItI lo hi w A ls) (hf : Frm ps w w') (hhi : hi ≤ w.heap.size) (hp : ∀ p ∈ ps, p < lo ∨ hi ≤ p) : ItI lo hi w' A ls := fun h0 => by
  obtain ⟨b, off, rfl, h1, h2, h3⟩ := h h0
  refine ⟨b, off, rfl, h1, h2, fun k hk => ?_⟩
  obtain ⟨A', c', h4, h5, h6⟩ := h3 k hk
  have h7 := hf.block b (by omega) (fun hb => by have := hp b hb; omega)
  exact ⟨A', c', (World.cell?_of_block (a := ⟨b, off + k, none⟩) h7).trans h4, h5, h6.keep hf hhi hp⟩
theorem ItI.tail {lo hi : Nat} {w : World} {b off : Nat} {x : List UInt8} {ls : List (List UInt8)} (h : ItI lo hi w (some ⟨b, off, none⟩) (x :: ls)) : ItI lo hi w (some ⟨b, off + 1, none⟩) ls := fun h0 => by
  obtain ⟨b', off', he, h1, h2, h3⟩ := h (by simp)
  cases he
  refine ⟨b, off + 1, rfl, h1, h2, fun k hk => ?_⟩
  obtain ⟨A', c', h4, h5, h6⟩ := h3 (k + 1) (by simpa using hk)
  exact ⟨A', c', by rw [show off + 1 + k = off + (k + 1) from by omega]; exact h4, h5, h6⟩
/-- A *fields at p: what is left of its list, and whether something was bad. -/
structure Fld (w : World) (p lo : Nat) (ls : List (List UInt8)) (bad : Bool) : Prop where
  cells : ∃ A c, w.heap[p]? = some (.cells #[.slice A ls.length c, .bool bad] 88 (0, 0)) ∧ ls.length ≤ c ∧ ItI lo p w A ls
  lo : lo ≤ p
theorem Fld.lt {w : World} {p lo : Nat} {ls : List (List UInt8)} {bad : Bool} (h : Fld w p lo ls bad) : p < w.heap.size := by
  obtain ⟨A, c, h1, _⟩ := h.cells
  exact lt_of_heap h1
theorem Fld.keep {w w' : World} {p lo : Nat} {ls : List (List UInt8)} {bad : Bool} {ps : List Nat} (h : Fld w p lo ls bad) (hf : Frm ps w w') (hp : ∀ q ∈ ps, q < lo ∨ p < q) : Fld w' p lo ls bad := by
  obtain ⟨A, c, h1, h2, h3⟩ := h.cells
  have hlt := h.lt
  exact ⟨⟨A, c, hf.heap h1 (fun hq => by have := hp p hq; have := h.lo; omega), h2, h3.keep hf (by omega) (fun q hq => by have := hp q hq; omega)⟩, h.lo⟩
theorem Fld.put {w : World} {p lo : Nat} {ls : List (List UInt8)} {bad : Bool} {A A2 : Option Addr} {n c c2 : Nat} (hp : w.heap[p]? = some (.cells #[.slice A n c, .bool bad] 88 (0, 0))) (hlo : lo ≤ p) (hi : ItI lo p w A2 ls) (hc : ls.length ≤ c2) :
    Fld (w.setCell ⟨p, 0, none⟩ (.slice A2 ls.length c2)) p lo ls bad ∧ Frm [p] w (w.setCell ⟨p, 0, none⟩ (.slice A2 ls.length c2)) := by
  have hf := Frm.setCell w p 0 (.slice A2 ls.length c2)
  exact ⟨⟨⟨A2, c2, heap_setCell_same w p 0 _ _ _ hp, hc, hi.keep hf (Nat.le_of_lt (lt_of_heap hp)) (by simp)⟩, hlo⟩, hf⟩
def NextPost (x : List UInt8) (ls : List (List UInt8)) (bad : Bool) (p lo : Nat) (w : World) (e : Ending) (w' : World) : Prop := ∃ A c, e = .returned (.slice A x.length c) ∧ x.length ≤ c ∧ RdI lo p w' A (bvs x) ∧ Fld w' p lo ls bad ∧ Frm [p] w w'
set_option maxRecDepth 100000 in
set_option maxHeartbeats 1000000 in
theorem next_any (x : List UInt8) (ls : List (List UInt8)) (bad : Bool) (p lo : Nat) (w : World) (h : Fld w p lo (x :: ls) bad) : Calls Try.prog 51 #[.pointer (some ⟨p, 0, none⟩)] w (NextPost x ls bad p lo w) := by
  obtain ⟨A, c, hp, hc, hi⟩ := h.cells
  have hlt := h.lt
  have hlo := h.lo
  obtain ⟨b, off, rfl, h1, h2, h3⟩ := hi (by simp)
  obtain ⟨A', c', h4, h5, h6⟩ := h3 0 (by simp)
  have ht := hi.tail
  have e0 : w.cell? ⟨p, 0, none⟩ = some (.slice (some ⟨b, off, none⟩) (ls.length + 1) c) := by rw [cell_of_row w p 0 _ _ _ hp]; rfl
  have e1 : w.cell? ⟨b, off, none⟩ = some (.slice A' x.length c') := by have h_ := h4; rw [Nat.add_zero] at h_; exact h_
  have hfz := frozen_row hp 0
  have hcI : ((ls.length : Int) + 1) ≤ (c : Int) := by simp at hc; omega
  have H := Lib.hid (And.intro hp (And.intro hlt (And.intro hlo (And.intro h5 (And.intro h6 ht)))))
  clear h hp hlt hlo hi h1 h2 h3 h4 h5 h6 ht hc
  by_cases h1 : c = 1
  · subst h1
    have hl0 : ls.length = 0 := by omega
    have hn : ls = [] := List.eq_nil_of_length_eq_zero hl0
    subst hn
    have h2 := Fld.put (A2 := some ⟨b, off, none⟩) (c2 := 0) (ls := []) H.out.1 H.out.2.2.1 (fun h0 => by simp at h0) (by simp)
    have H2 := Lib.hid h2
    clear h2 hcI hl0
    go_enter Try.func51, Try.ntmps51
    go_wp2
    go_ret
    exact ⟨_, _, rfl, H.out.2.2.2.1, H.out.2.2.2.2.1.keep H2.out.2 (Nat.le_of_lt H.out.2.1) (by simp), H2.out.1, H2.out.2⟩
  · have H2 := Lib.hid (Fld.put (A2 := some ⟨b, off + 1, none⟩) (c2 := c - 1) H.out.1 H.out.2.2.1 H.out.2.2.2.2.2 (by omega))
    go_enter Try.func51, Try.ntmps51
    go_wp2
    go_ret
    exact ⟨_, _, rfl, H.out.2.2.2.1, H.out.2.2.2.2.1.keep H2.out.2 (Nat.le_of_lt H.out.2.1) (by simp), H2.out.1, H2.out.2⟩
end Go.Proofs.Ytbpgbihcihnieaa
