/- must, RootBytes. No conditions. -/
import Derived.Test.YtbpgbihcihnieaaV1
import Derived.Test.YtbpgbihcihnieaaG1
namespace Go.Proofs.Ytbpgbihcihnieaa
open Go.RowKit
def BPost (l : List UInt8) (w : World) (e : Ending) (w' : World) : Prop := ∃ v, e = .returned v ∧ Own8 w' w.heap.size v l ∧ Below w.heap.size w w'
set_option maxRecDepth 100000 in
set_option maxHeartbeats 400000 in
theorem must_any (A : Option Addr) (n c : Nat) (ls : List (List UInt8)) (w : World) (hl : Lists w w.heap.size A ls) (hc : ls.length = n) (hn : n ≤ 140737488355328) : Calls Try.prog 56 #[.slice A n c] w (BPost (encB ls) w) := by
  subst hc
  go_enter Try.func56, Try.ntmps56
  go_wp2_with (go_at_call 14; go_must (refine (Encode_any A c ls w hl hn).mono ?_; rintro e w1 ⟨v, rfl, ho, hb⟩; obtain ⟨A1, c1, rfl, hc1, hr1⟩ := own8_form ho))
  go_ret
  exact ⟨_, rfl, ho, hb⟩
theorem root_at {w : World} {b : Nat} {r : RootV} {t : TypeId} {f : Nat × Nat} (h : w.heap[b]? = some (.cells r.cs t f)) : w.cell? ⟨b, 0, none⟩ = some (.int .u64 r.e) ∧ w.cell? ⟨b, 1, none⟩ = some (.int .u64 r.k) ∧ w.cell? ⟨b, 2, none⟩ = some (.int .u64 r.g) := by
  refine ⟨?_, ?_, ?_⟩ <;> rw [cell_of_row w b _ _ _ _ h] <;> rfl
theorem Itm.at_ {w : World} {b off n : Nat} {cs : Array Value} {l : List UInt8} {t : TypeId} {f : Nat × Nat} (h : w.heap[b]? = some (.cells cs t f)) (hl : l.length = n) (hc : ∀ j, j < n → cs[off + j]? = (bvs l)[j]?) : Itm w (.slice (some ⟨b, off, none⟩) n n) l := by
  subst hl
  refine ⟨_, _, rfl, Nat.le_refl _, by simp [bvs_length], fun _ => ⟨_, rfl, lt_of_heap h, fun j u hu => ?_⟩⟩
  have hj : j < l.length := by
    rcases Nat.lt_or_ge j l.length with h' | h'
    · exact h'
    · rw [List.getElem?_eq_none (by simp [bvs_length]; exact h')] at hu; cases hu
  rw [add_none, cell_of_row w b (off + j) _ _ _ h, hc j hj, hu]
theorem root_parts {w : World} {b : Nat} {r : RootV} (hr : r.ok) {t : TypeId} {f : Nat × Nat} (h : w.heap[b]? = some (.cells r.cs t f)) : Itm w (.slice (some ⟨b, 3, none⟩) 32 32) r.p ∧ Itm w (.slice (some ⟨b, 35, none⟩) 32 32) r.h ∧ Itm w (.slice (some ⟨b, 67, none⟩) 32 32) r.l ∧ Itm w (.slice (some ⟨b, 99, none⟩) 64 64) r.s := by
  have e : ∀ j, r.cs[j + 3]? = (bvs r.p ++ (bvs r.h ++ (bvs r.l ++ bvs r.s)))[j]? := fun j => by
    unfold RootV.cs RootV.vs
    simp
  refine ⟨Itm.at_ h hr.p fun j hj => ?_, Itm.at_ h hr.h fun j hj => ?_, Itm.at_ h hr.l fun j hj => ?_, Itm.at_ h hr.s fun j hj => ?_⟩
  · rw [show 3 + j = j + 3 from by omega, e, List.getElem?_append_left (by simp [bvs_length, hr.p]; exact hj)]
  · rw [show 35 + j = (j + 32) + 3 from by omega, e, List.getElem?_append_right (by simp [bvs_length, hr.p]), List.getElem?_append_left (by simp [bvs_length, hr.p, hr.h]; omega)]
    congr 1; simp [bvs_length, hr.p]
  · rw [show 67 + j = (j + 64) + 3 from by omega, e, List.getElem?_append_right (by simp [bvs_length, hr.p]), List.getElem?_append_right (by simp [bvs_length, hr.p, hr.h]), List.getElem?_append_left (by simp [bvs_length, hr.p, hr.h, hr.l]; omega)]
    congr 1; simp [bvs_length, hr.p, hr.h]
  · rw [show 99 + j = (j + 96) + 3 from by omega, e, List.getElem?_append_right (by simp [bvs_length, hr.p]), List.getElem?_append_right (by simp [bvs_length, hr.p, hr.h]), List.getElem?_append_right (by simp [bvs_length, hr.p, hr.h, hr.l])]
    congr 1; simp [bvs_length, hr.p, hr.h, hr.l]
/-- []byte of a constant: the block behind it is marked, nothing else. -/
theorem run_conv_mark {w : World} {b n c m : Nat} {C : Array Value} (h : w.heap[b]? = some (.cells C 5 (0, 0))) (hm : C.size = m) :
    (convert 24 24 (.slice (some ⟨b, 0, none⟩) n c)).run Try.prog w = .ok (.slice (some ⟨b, 0, none⟩) n c) (w.freeze ⟨b, m, none⟩ 1) := by
  subst hm
  have hsh : w.shape? b = some (5, C.size) := by
    unfold World.shape?
    rw [h]
  simp [convert, run_underlying Try.underlying24, run_underlying Try.underlying5, markStringish, hsh]
theorem mark_world {w : World} {b n : Nat} {C : Array Value} {t : TypeId} (h : w.heap[b]? = some (.cells C t (0, 0))) :
    (∀ a, (w.freeze ⟨b, n, none⟩ 1).cell? a = w.cell? a) ∧ (w.freeze ⟨b, n, none⟩ 1).heap.size = w.heap.size ∧ (∀ k, k ≠ b → (w.freeze ⟨b, n, none⟩ 1).heap[k]? = w.heap[k]?) ∧ (∀ B, B ≤ b → Below B w (w.freeze ⟨b, n, none⟩ 1)) := by
  have hs : (w.freeze ⟨b, n, none⟩ 1).heap.size = w.heap.size := by
    unfold World.freeze
    rw [if_neg (by decide)]
    simp
  have hne : ∀ k, k ≠ b → (w.freeze ⟨b, n, none⟩ 1).heap[k]? = w.heap[k]? := fun k hk => by
    unfold World.freeze
    rw [if_neg (by decide)]
    simp only [Array.getElem?_modify]
    rw [if_neg (fun e => hk e.symm)]
  have hb : ∃ f, (w.freeze ⟨b, n, none⟩ 1).heap[b]? = some (.cells C t f) := by
    unfold World.freeze
    rw [if_neg (by decide)]
    simp only [Array.getElem?_modify, if_pos, h, Option.map_some]
    exact ⟨_, rfl⟩
  refine ⟨fun a => ?_, hs, hne, fun B hB => ⟨?_, ?_, ?_, Nat.le_of_eq hs.symm, fun k hk => hne k (by omega)⟩⟩
  · by_cases e : a.block = b
    · obtain ⟨f, hf⟩ := hb
      unfold World.cell?
      rw [e, hf, h]
    · unfold World.cell?
      rw [hne _ e]
  all_goals (unfold World.freeze; rw [if_neg (by decide)])
theorem Itm.cells {w w' : World} {v : Value} {l : List UInt8} (h : Itm w v l) (hc : ∀ a, w'.cell? a = w.cell? a) (hs : w'.heap.size = w.heap.size) : Itm w' v l := by
  obtain ⟨A, c, rfl, h1, hr⟩ := h
  exact ⟨A, c, rfl, h1, (hr.keep fun _ _ => hc _).more (Nat.le_of_eq hs.symm)⟩
theorem Itm.row {w : World} {b n : Nat} {l : List UInt8} {t : TypeId} {f : Nat × Nat} {C : Array Value} (h : w.heap[b]? = some (.cells C t f)) (hC : C = (bvs l).toArray) (hl : l.length = n) : Itm w (.slice (some ⟨b, 0, none⟩) n n) l :=
  Itm.at_ h hl (fun j _ => by rw [Nat.zero_add, hC]; simp)
theorem rootW_cells : (#[.int .u8 114, .int .u8 111, .int .u8 111, .int .u8 116] : Array Value) = (bvs rootW).toArray := rfl
theorem signedW_cells : (#[.int .u8 115, .int .u8 105, .int .u8 103, .int .u8 110, .int .u8 101, .int .u8 100] : Array Value) = (bvs signedW).toArray := rfl
end Go.Proofs.Ytbpgbihcihnieaa
