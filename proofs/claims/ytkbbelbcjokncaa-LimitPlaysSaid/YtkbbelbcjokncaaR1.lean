/- The reference's table in memory; New, Size, apart, find. No conditions. -/
import Derived.Test.YtkbbelbcjokncaaT7
import Derived.Test.YtkbbelbcjokncaaLay
namespace Go.Proofs.Ytkbbelbcjokncaa
open Go.RowKit
/-- A bucket: its key, its tokens, its moment. -/
abbrev Bk := ByteArray × Int × Int
def cellsK (l : List Bk) : List Value := l.flatMap fun b => [.string b.1, .int .i64 b.2.1, .int .i64 b.2.2]
structure RT where
  most : Int
  each : Int
  bs : List Bk
structure Rtb (w : World) (base : Nat) (own : Nat → Prop) (g : Nat) (t : RT) (V : Value) : Prop where
  blk : w.heap[g]? = some (.cells #[.int .i64 t.most, .int .i64 t.each, V] 53 (0, 0))
  row : w.ownsRow base 56 3 V t.bs.length (cellsK t.bs)
  ownG : own g
  ownV : ∀ k, V.ownBlock = some k → own k
  bnd : ∀ k, own k → base ≤ k ∧ k < w.heap.size
  gV : V.ownBlock ≠ some g
variable {w w' : World} {base g : Nat} {own : Nat → Prop} {t : RT} {V : Value}
theorem Rtb.field (h : Rtb w base own g t V) {i : Nat} {v : Value} (hv : (#[.int .i64 t.most, .int .i64 t.each, V] : Array Value)[i]? = some v) : w.cell? ⟨g, i, none⟩ = some v := by
  rw [cell_of_row _ g i _ _ _ h.blk]; exact hv
theorem Rtb.form (h : Rtb w base own g t V) : ∃ A c, V = .slice A t.bs.length c := by
  obtain ⟨_, ⟨rfl, h0⟩ | ⟨g', cap, cur, rfl, _⟩⟩ := h.row
  · exact ⟨none, 0, by rw [h0]⟩
  · exact ⟨_, cap, rfl⟩
theorem Rtb.at_ (h : Rtb w base own g t V) {k : Nat} {b : Bk} (hk : t.bs[k]? = some b) :
    ∃ gV c, V = .slice (some ⟨gV, 0, none⟩) t.bs.length c ∧ own gV ∧ gV < w.heap.size ∧ w.cell? ⟨gV, k * 3, none⟩ = some (.string b.1) ∧ w.cell? ⟨gV, k * 3 + 1, none⟩ = some (.int .i64 b.2.1) ∧ w.cell? ⟨gV, k * 3 + 2, none⟩ = some (.int .i64 b.2.2) := by
  have hlt : k < t.bs.length := by
    rcases Nat.lt_or_ge k t.bs.length with h' | h'
    · exact h'
    · rw [List.getElem?_eq_none h'] at hk; cases hk
  obtain ⟨gV, c, hV, hb, hl⟩ := h.row.form (by omega)
  have hrow := h.row
  rw [hV] at hrow
  have hle : (k + 1) * 3 ≤ t.bs.length * 3 := Nat.mul_le_mul_right _ hlt
  have get : ∀ (j : Nat) (v : Value), j < 3 → ([.string b.1, .int .i64 b.2.1, .int .i64 b.2.2] : List Value)[j]? = some v → w.cell? ⟨gV, k * 3 + j, none⟩ = some v := fun j v hj hv => by
    rw [hrow.cellAt (k * 3 + j) (by omega)]
    exact flat_get (fun b : Bk => [.string b.1, .int .i64 b.2.1, .int .i64 b.2.2]) 3 t.bs k j b v (fun _ _ => rfl) hk hv
  exact ⟨gV, c, hV, h.ownV _ (by rw [hV]; rfl), hl, get 0 _ (by omega) rfl, get 1 _ (by omega) rfl, get 2 _ (by omega) rfl⟩
def RT.fresh (most each : Int) : RT := ⟨most, each, []⟩
set_option maxRecDepth 100000 in
set_option maxHeartbeats 600000 in
theorem RNew_any (most each : Int) (h1 : 1 ≤ most) (h2 : most ≤ 2147483648) (h3 : 0 ≤ each) (h4 : each ≤ 2147483648) (w : World) : Calls Try.prog 12 #[.int .i64 most, .int .i64 each] w
    fun e w' => ∃ g, e = .returned (.tuple #[.pointer (some ⟨g, 0, none⟩), .int .i64 0]) ∧ Rtb w' w.heap.size (fun k => w.heap.size ≤ k ∧ k < w'.heap.size) g (RT.fresh most each) (.slice none 0 0) ∧ Below w.heap.size w w' := by
  have d1 : decide (most < 1) = false := decide_eq_false (by omega)
  have d2 : decide (2147483648 < most) = false := decide_eq_false (by omega)
  have d3 : decide (each < 0) = false := decide_eq_false (by omega)
  have d4 : decide (2147483648 < each) = false := decide_eq_false (by omega)
  clear h1 h2 h3 h4
  go_enter Try.func12, Try.ntmps12
  go_wp2
  go_ret2
  exact ⟨w.heap.size, rfl, ⟨heap_alloc_new w _, World.ownsRow_nil _ _ _ 3, ⟨Nat.le_refl _, by simp⟩, fun k hk => (by cases hk), fun k hk => hk, fun e => (by cases e)⟩, (Below.refl _ _).alloc (Nat.le_refl _) _⟩
set_option maxRecDepth 100000 in
set_option maxHeartbeats 600000 in
theorem RSize_any (h : Rtb w base own g t V) : Calls Try.prog 15 #[.pointer (some ⟨g, 0, none⟩)] w fun e w' => e = .returned (.int .i64 (t.bs.length : Int)) ∧ w' = w := by
  have f2 := h.field (i := 2) rfl
  obtain ⟨A, c, rfl⟩ := h.form
  go_enter Try.func15, Try.ntmps15
  go_wp2
  go_ret
  exact ⟨rfl, rfl⟩
end Go.Proofs.Ytkbbelbcjokncaa
