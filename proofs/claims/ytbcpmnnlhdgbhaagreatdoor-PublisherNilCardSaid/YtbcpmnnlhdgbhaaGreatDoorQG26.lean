/- The texts Reg2 LNums V1 V2 of this work, merged by wip/merge.py. No conditions. -/
import Derived.Test.YtbcpmnnlhdgbhaaGreatDoorQG03
import Derived.Test.YtbcpmnnlhdgbhaaGreatDoorQG25
import Derived.Test.YtbcpmnnlhdgbhaaGreatDoorQG01
import Derived.Test.YtbcpmnnlhdgbhaaGreatDoorQG04
namespace Go.Proofs.YtbcpmnnlhdgbhaaGreatDoor
section
variable {P : Program} {ops : Array Oper} {md : Region.Mode} {C : World → Prop} {Q : Act → World → Prop}

def looks (ops : Array Oper) (i : Nat) : List Tmp := match ops[i]? with | some o => o.looksAt ops | none => []

section
variable {S : World → World → Prop} {sp : Nat → Option (Value → World → Prop)} {listed0 : Array Bool} {rem : List Nat} {D : Nat → List Nat} {a1 : Act}

end
end
end Go.Proofs.YtbcpmnnlhdgbhaaGreatDoor

namespace Go.Proofs.YtbcpmnnlhdgbhaaGreatDoor
open Go.RowKit
end Go.Proofs.YtbcpmnnlhdgbhaaGreatDoor

namespace Go.Proofs.YtbcpmnnlhdgbhaaGreatDoor
open Go.RowKit
/-- A root. -/
structure RootV where
  e : Nat
  k : Nat
  g : Nat
  p : List UInt8
  h : List UInt8
  l : List UInt8
  s : List UInt8
structure RootV.ok (r : RootV) : Prop where
  e : r.e < 18446744073709551616
  k : r.k < 18446744073709551616
  g : r.g < 18446744073709551616
  p : r.p.length = 32
  h : r.h.length = 32
  l : r.l.length = 32
  s : r.s.length = 64
/-- Its cells: three numbers and four rows of bytes. -/
def RootV.vs (r : RootV) : List Value := .int .u64 r.e :: .int .u64 r.k :: .int .u64 r.g :: (bvs r.p ++ (bvs r.h ++ (bvs r.l ++ bvs r.s)))
def RootV.cs (r : RootV) : Array Value := r.vs.toArray
def rootW : List UInt8 := [114, 111, 111, 116]
def rootL (r : RootV) : List (List UInt8) := [rootW, be8 r.e, be8 r.k, be8 r.g, r.p, r.h, r.l]
def rootB (r : RootV) : List UInt8 := encB (rootL r)
theorem rootL_ok {r : RootV} (h : r.ok) : encOK (rootL r) = true := encOK_of (by simp [rootL]) (by simp [rootL, bulk, rootW, be8_length, h.p, h.h, h.l])
theorem rootB_length {r : RootV} (h : r.ok) : (rootB r).length = 156 := by
  rw [rootB, encB_ok (rootL_ok h), List.length_append, be4_length, members_length]
  simp [rootL, bulk, rootW, be8_length, h.p, h.h, h.l]
/-- A value that is a slice of bytes which read as l. -/
def Itm (w : World) (v : Value) (l : List UInt8) : Prop := ∃ A c, v = .slice A l.length c ∧ l.length ≤ c ∧ Reads w w.heap.size 1 A l.length (bvs l)
theorem Itm.below {w w' : World} {v : Value} {l : List UInt8} (h : Itm w v l) (hb : Below w.heap.size w w') : Itm w' v l := by
  obtain ⟨A, c, rfl, hc, hr⟩ := h
  exact ⟨A, c, rfl, hc, (hr.keep fun _ hp => hb.cell hp).more hb.size⟩
theorem Itm.own {w : World} {base : Nat} {v : Value} {l : List UInt8} (h : Own8 w base v l) : Itm w v l := by
  obtain ⟨A, c, rfl, hc, hr⟩ := own8_form h
  exact ⟨A, c, rfl, hc, hr⟩
inductive Itms (w : World) : List Value → List (List UInt8) → Prop
  | nil : Itms w [] []
  | cons {v : Value} {l : List UInt8} {vs : List Value} {ls : List (List UInt8)} (h : Itm w v l) (t : Itms w vs ls) : Itms w (v :: vs) (l :: ls)
theorem Itms.length {w : World} {vs : List Value} {ls : List (List UInt8)} (h : Itms w vs ls) : vs.length = ls.length := by
  induction h with
  | nil => rfl
  | cons _ _ ih => simp [ih]
theorem Itms.at_ {w : World} {vs : List Value} {ls : List (List UInt8)} (h : Itms w vs ls) : ∀ (i : Nat) (hi : i < ls.length), ∃ A c, vs[i]? = some (.slice A ls[i].length c) ∧ ls[i].length ≤ c ∧ Reads w w.heap.size 1 A ls[i].length (bvs ls[i]) := by
  induction h with
  | nil => intro i hi; simp at hi
  | cons h t ih =>
    intro i hi
    cases i with
    | zero => obtain ⟨A, c, rfl, hc, hr⟩ := h; exact ⟨A, c, rfl, hc, hr⟩
    | succ i => exact ih i (by simpa using hi)
/-- A list that was just built. -/
theorem Itms.lists {w : World} {vs : List Value} {ls : List (List UInt8)} (h : Itms w vs ls) (t : TypeId) : Lists (w.alloc (.cells vs.toArray t)) (w.alloc (.cells vs.toArray t)).heap.size (some ⟨w.heap.size, 0, none⟩) ls := by
  refine ⟨vs, ⟨by rw [h.length]; simp, fun _ => ⟨_, rfl, by simp, fun j u hu => ?_⟩⟩, fun i hi => ?_⟩
  · rw [add_none, Nat.zero_add, cell_new]; simpa using hu
  · obtain ⟨A, c, hv, hc, hr⟩ := h.at_ i hi
    exact ⟨A, c, hv, hc, (hr.keep fun _ hp => (((Below.refl _ w).alloc (Nat.le_refl _) _).cell hp)).more (by simp)⟩
end Go.Proofs.YtbcpmnnlhdgbhaaGreatDoor

namespace Go.Proofs.YtbcpmnnlhdgbhaaGreatDoor
open Go.RowKit
def BPost (l : List UInt8) (w : World) (e : Ending) (w' : World) : Prop := ∃ v, e = .returned v ∧ Own8 w' w.heap.size v l ∧ Below w.heap.size w w'
set_option maxRecDepth 100000 in
set_option maxHeartbeats 400000 in
theorem must_any (A : Option Addr) (n c : Nat) (ls : List (List UInt8)) (w : World) (hl : Lists w w.heap.size A ls) (hc : ls.length = n) (hn : n ≤ 140737488355328) : Calls Tryz.prog 148 #[.slice A n c] w (BPost (encB ls) w) := by
  subst hc
  go_enter Tryz.func148, Tryz.ntmps148
  go_wp2_with (go_at_call 28; go_must (refine (Encode_any A c ls w hl hn).mono ?_; rintro e w1 ⟨v, rfl, ho, hb⟩; obtain ⟨A1, c1, rfl, hc1, hr1⟩ := own8_form ho))
  go_ret
  exact ⟨_, rfl, ho, hb⟩
theorem root_at {w : World} {b : Nat} {r : RootV} {t : TypeId} {f : Nat × Nat} (h : w.heap[b]? = some (.cells r.cs t f)) : w.cell? ⟨b, 0, none⟩ = some (.int .u64 r.e) ∧ w.cell? ⟨b, 1, none⟩ = some (.int .u64 r.k) ∧ w.cell? ⟨b, 2, none⟩ = some (.int .u64 r.g) := by
  refine ⟨?_, ?_, ?_⟩ <;> rw [cell_of_row w b _ _ _ _ h] <;> rfl
theorem Itm.at_ {w : World} {b off n : Nat} {cs : Array Value} {l : List UInt8} {t : TypeId} {f : Nat × Nat} (h : w.heap[b]? = some (.cells cs t f)) (hl : l.length = n) (hc : ∀ j, j < n → cs[off + j]? = (bvs l)[j]?) : Itm w (.slice (some ⟨b, off, none⟩) n n) l := by
  subst hl
  refine ⟨_, _, rfl, Nat.le_refl _, by simp [bvs_length], fun _ => ⟨_, rfl, lt_of_heap h, fun j u hu => ?_⟩⟩
  have hj : j < l.length := by
    rcases Nat.lt_or_ge j l.length with h' | h'
    · exact h'
    · rw [List.getElem?_eq_none (by simp [bvs_length]; exact h')] at hu; cases hu
  rw [add_none, cell_of_row w b (off + j) _ _ _ h, hc j hj, hu]
theorem root_parts {w : World} {b : Nat} {r : RootV} (hr : r.ok) {t : TypeId} {f : Nat × Nat} (h : w.heap[b]? = some (.cells r.cs t f)) : Itm w (.slice (some ⟨b, 3, none⟩) 32 32) r.p ∧ Itm w (.slice (some ⟨b, 35, none⟩) 32 32) r.h ∧ Itm w (.slice (some ⟨b, 67, none⟩) 32 32) r.l ∧ Itm w (.slice (some ⟨b, 99, none⟩) 64 64) r.s := by
  have e : ∀ j, r.cs[j + 3]? = (bvs r.p ++ (bvs r.h ++ (bvs r.l ++ bvs r.s)))[j]? := fun j => by
    unfold RootV.cs RootV.vs
    simp
  refine ⟨Itm.at_ h hr.p fun j hj => ?_, Itm.at_ h hr.h fun j hj => ?_, Itm.at_ h hr.l fun j hj => ?_, Itm.at_ h hr.s fun j hj => ?_⟩
  · rw [show 3 + j = j + 3 from by omega, e, List.getElem?_append_left (by simp [bvs_length, hr.p]; exact hj)]
  · rw [show 35 + j = (j + 32) + 3 from by omega, e, List.getElem?_append_right (by simp [bvs_length, hr.p]), List.getElem?_append_left (by simp [bvs_length, hr.p, hr.h]; omega)]
    congr 1; simp [bvs_length, hr.p]
  · rw [show 67 + j = (j + 64) + 3 from by omega, e, List.getElem?_append_right (by simp [bvs_length, hr.p]), List.getElem?_append_right (by simp [bvs_length, hr.p, hr.h]), List.getElem?_append_left (by simp [bvs_length, hr.p, hr.h, hr.l]; omega)]
    congr 1; simp [bvs_length, hr.p, hr.h]
  · rw [show 99 + j = (j + 96) + 3 from by omega, e, List.getElem?_append_right (by simp [bvs_length, hr.p]), List.getElem?_append_right (by simp [bvs_length, hr.p, hr.h]), List.getElem?_append_right (by simp [bvs_length, hr.p, hr.h, hr.l])]
    congr 1; simp [bvs_length, hr.p, hr.h, hr.l]
/-- []byte of a constant: the block behind it is marked, nothing else. -/
theorem run_conv_mark {w : World} {b n c m : Nat} {C : Array Value} (h : w.heap[b]? = some (.cells C 5 (0, 0))) (hm : C.size = m) :
    (convert 96 96 (.slice (some ⟨b, 0, none⟩) n c)).run Tryz.prog w = .ok (.slice (some ⟨b, 0, none⟩) n c) (w.freeze ⟨b, m, none⟩ 1) := by
  subst hm
  have hsh : w.shape? b = some (5, C.size) := by
    unfold World.shape?
    rw [h]
  simp [convert, run_underlying Tryz.underlying96, run_underlying Tryz.underlying5, markStringish, hsh]
theorem mark_world {w : World} {b n : Nat} {C : Array Value} {t : TypeId} (h : w.heap[b]? = some (.cells C t (0, 0))) :
    (∀ a, (w.freeze ⟨b, n, none⟩ 1).cell? a = w.cell? a) ∧ (w.freeze ⟨b, n, none⟩ 1).heap.size = w.heap.size ∧ (∀ k, k ≠ b → (w.freeze ⟨b, n, none⟩ 1).heap[k]? = w.heap[k]?) ∧ (∀ B, B ≤ b → Below B w (w.freeze ⟨b, n, none⟩ 1)) := by
  have hs : (w.freeze ⟨b, n, none⟩ 1).heap.size = w.heap.size := by
    unfold World.freeze
    rw [if_neg (by decide)]
    simp
  have hne : ∀ k, k ≠ b → (w.freeze ⟨b, n, none⟩ 1).heap[k]? = w.heap[k]? := fun k hk => by
    unfold World.freeze
    rw [if_neg (by decide)]
    simp only [Array.getElem?_modify]
    rw [if_neg (fun e => hk e.symm)]
  have hb : ∃ f, (w.freeze ⟨b, n, none⟩ 1).heap[b]? = some (.cells C t f) := by
    unfold World.freeze
    rw [if_neg (by decide)]
    simp only [Array.getElem?_modify, if_pos, h, Option.map_some]
    exact ⟨_, rfl⟩
  refine ⟨fun a => ?_, hs, hne, fun B hB => ⟨?_, ?_, ?_, Nat.le_of_eq hs.symm, fun k hk => hne k (by omega)⟩⟩
  · by_cases e : a.block = b
    · obtain ⟨f, hf⟩ := hb
      unfold World.cell?
      rw [e, hf, h]
    · unfold World.cell?
      rw [hne _ e]
  all_goals (unfold World.freeze; rw [if_neg (by decide)])
theorem Itm.cells {w w' : World} {v : Value} {l : List UInt8} (h : Itm w v l) (hc : ∀ a, w'.cell? a = w.cell? a) (hs : w'.heap.size = w.heap.size) : Itm w' v l := by
  obtain ⟨A, c, rfl, h1, hr⟩ := h
  exact ⟨A, c, rfl, h1, (hr.keep fun _ _ => hc _).more (Nat.le_of_eq hs.symm)⟩
theorem Itm.row {w : World} {b n : Nat} {l : List UInt8} {t : TypeId} {f : Nat × Nat} {C : Array Value} (h : w.heap[b]? = some (.cells C t f)) (hC : C = (bvs l).toArray) (hl : l.length = n) : Itm w (.slice (some ⟨b, 0, none⟩) n n) l :=
  Itm.at_ h hl (fun j _ => by rw [Nat.zero_add, hC]; simp)
theorem rootW_cells : (#[.int .u8 114, .int .u8 111, .int .u8 111, .int .u8 116] : Array Value) = (bvs rootW).toArray := rfl
end Go.Proofs.YtbcpmnnlhdgbhaaGreatDoor
