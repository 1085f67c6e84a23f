/- The reference's Take: where the key has no bucket. No conditions. -/
import Derived.Test.YtkbbelbcjokncaaR7
namespace Go.Proofs.Ytkbbelbcjokncaa
open Go.RowKit
variable {w w' : World} {base g : Nat} {own : Nat → Prop} {t : RT} {V : Value}
theorem cellsK_set : ∀ (l : List Bk) (k j : Nat) (b b' : Bk) (v : Value), l[k]? = some b → j < 3 → ([.string b.1, .int .i64 b.2.1, .int .i64 b.2.2] : List Value).set j v = [.string b'.1, .int .i64 b'.2.1, .int .i64 b'.2.2] → (cellsK l).set (k * 3 + j) v = cellsK (l.set k b')
  | [], _, _, _, _, _, h, _, _ => by simp at h
  | x :: l, 0, j, b, b', v, h, hj, hv => by
    have hx : x = b := by simpa using h
    subst hx
    rw [List.set_cons_zero, cellsK_cons, cellsK_cons, Nat.zero_mul, Nat.zero_add, List.set_append_left _ _ (by simpa using hj), hv]
  | x :: l, k + 1, j, b, b', v, h, hj, hv => by
    rw [List.set_cons_succ, cellsK_cons, cellsK_cons, List.set_append_right _ _ (by simp; omega), ← cellsK_set l k j b b' v (by simpa using h) hj hv]
    congr 1
    simp only [List.length_cons, List.length_nil]
    rw [show (k + 1) * 3 + j - (0 + 1 + 1 + 1) = k * 3 + j from by omega]
theorem lt_of_get {α : Type} {l : List α} {k : Nat} {b : α} (h : l[k]? = some b) : k < l.length := by
  rcases Nat.lt_or_ge k l.length with h' | h'
  · exact h'
  · rw [List.getElem?_eq_none h'] at h; cases h
theorem Rtb.stored {gV c : Nat} (h : Rtb w base own g t (.slice (some ⟨gV, 0, none⟩) t.bs.length c)) {k j : Nat} {b b' : Bk} {v : Value} (hk : t.bs[k]? = some b) (hj : j < 3)
    (hv : ([.string b.1, .int .i64 b.2.1, .int .i64 b.2.2] : List Value).set j v = [.string b'.1, .int .i64 b'.2.1, .int .i64 b'.2.2]) :
    Rtb (w.setCell ⟨gV, k * 3 + j, none⟩ v) base own g { t with bs := t.bs.set k b' } (.slice (some ⟨gV, 0, none⟩) t.bs.length c) ∧ Turns own w (w.setCell ⟨gV, k * 3 + j, none⟩ v) := by
  obtain ⟨h1, h2⟩ := h.row.stored (k * 3 + j) v
  have hgg : g ≠ gV := fun e => h.gV (by rw [e]; rfl)
  have hlt := (h.bnd g h.ownG).2
  have hsz : (w.setCell ⟨gV, k * 3 + j, none⟩ v).heap.size = w.heap.size := by simp [World.setCell]
  refine ⟨⟨(h2.block g hlt (fun e => hgg (by injection e))).trans h.blk, ?_, h.ownG, h.ownV, fun k hk => by rw [hsz]; exact h.bnd k hk, h.gV⟩, Turns.of_grown h2 (fun k e => h.ownV k e)⟩
  show World.ownsRow _ _ _ _ _ (t.bs.set k b').length (cellsK (t.bs.set k b'))
  rw [List.length_set, ← cellsK_set t.bs k j b b' v hk hj hv]
  exact h1
theorem Rtb.unfrozenV {gV n c : Nat} (h : Rtb w base own g t (.slice (some ⟨gV, 0, none⟩) n c)) (i : Nat) : w.frozen? ⟨gV, i, none⟩ = false := by
  obtain ⟨hl, ⟨hv, _⟩ | ⟨g', cap, cur, hv, hb, hc, _⟩⟩ := h.row
  · cases hv
  · cases hv
    simp [World.frozen?, hc]
theorem Turns.then_ {own own' : Nat → Prop} {a b c : World} (h : Turns own a b) (h' : Turns own' b c) (ho : ∀ k, own' k → own k ∨ a.heap.size ≤ k) : Turns own a c :=
  ⟨h'.os.trans h.os, h'.tape.trans h.tape, h'.output.trans h.output, Nat.le_trans h.size h'.size, fun k hk hn => (h'.block k (Nat.lt_of_lt_of_le hk h.size) (fun e => by rcases ho k e with e | e; (exact hn e); omega)).trans (h.block k hk hn)⟩
theorem Turns.alloc {own : Nat → Prop} (w : World) (o : Obj) : Turns own w (w.alloc o) := Turns.of_below ((Below.refl _ _).alloc (Nat.le_refl _) _)
set_option maxRecDepth 100000 in
set_option maxHeartbeats 600000 in
theorem RTake_room (h : Rtb w base own g t V) (hlt : t.bs.length < 64) (s : ByteArray) (now : Int) (hm : 1 ≤ t.most ∧ t.most ≤ 2147483648) (hno : t.find s.data.toList = none) :
    Calls Try.prog 13 #[.pointer (some ⟨g, 0, none⟩), .string s, .int .i64 now] w fun e w' => e = .returned (.bool true) ∧ AfterR base g own { t with bs := t.bs ++ [(s, t.most - 1, now)] } w w' := by
  have hv : findV t s.data.toList = -1 := by unfold findV; rw [hno]
  have Hv := Lib.hid hv
  have d1 : decide ((64 : Int) ≤ (t.bs.length : Int)) = false := decide_eq_false (by omega)
  have f2 := h.field (i := 2) rfl
  obtain ⟨A, c, rfl⟩ := h.form
  have Hh := Lib.hid h
  have Hm := Lib.hid hm
  have Hlt := Lib.hid hlt
  clear hm h hv hno hlt
  go_enter Try.func13, Try.ntmps13
  go_wp2_with (go_at_call 19; go_must (refine (find_any Hh.out s (by have := Hlt.out; omega)).mono ?_; rintro e w1 ⟨rfl, rfl⟩; rw [Hv.out]))
  have hbase1 : base ≤ w1.heap.size := Nat.le_trans (Hh.out.bnd g Hh.out.ownG).1 (Nat.le_of_lt (Hh.out.bnd g Hh.out.ownG).2)
  refine AnyZ.start [13, 16] (by kernel_rfl) rfl ?_
  apply AnyZ.pure (i := 0) rfl (by kernel_rfl) rfl rfl
  · intro w' K hK
    go_wp2
    exact hK
  · rfl
  apply AnyZ.pure (i := 1) rfl (by kernel_rfl) rfl rfl
  · intro w' K hK
    go_wp2
    exact hK
  · rfl
  apply AnyZ.pure (i := 2) rfl (by kernel_rfl) rfl rfl
  · intro w' K hK
    go_wp2
    exact hK
  · rfl
  apply AnyZ.pure (i := 3) rfl (by kernel_rfl) rfl rfl
  · intro w' K hK
    go_wp2
    exact hK
  · rfl
  apply AnyZ.take (i := 4) rfl (by kernel_rfl) (by kernel_rfl) rfl
  · intro w' hC K hK
    have f2 := (Hh.out.below hC).field (i := 2) rfl
    go_wp2
    exact hK
  · rfl
  apply AnyZ.pure (i := 5) rfl (by kernel_rfl) rfl rfl
  · intro w' K hK
    go_wp2
    exact hK
  · rfl
  apply AnyZ.pure (i := 6) rfl (by kernel_rfl) rfl rfl
  · intro w' K hK
    go_wp2
    exact hK
  · rfl
  apply AnyZ.pure (i := 7) rfl (by kernel_rfl) rfl rfl
  · intro w' K hK
    go_wp2
    exact hK
  · rfl
  apply AnyZ.pure (i := 8) rfl (by kernel_rfl) rfl rfl
  · intro w' K hK
    go_wp2
    exact hK
  · rfl
  apply AnyZ.take (i := 9) rfl (by kernel_rfl) (by kernel_rfl) rfl
  · intro w' hC K hK
    have f0 := (Hh.out.below hC).field (i := 0) rfl
    go_wp2
    exact hK
  · rfl
  apply AnyZ.pure (i := 10) rfl (by kernel_rfl) rfl rfl
  · intro w' K hK
    go_wp2
    exact hK
  · rfl
  apply AnyZ.pure (i := 11) rfl (by kernel_rfl) rfl rfl
  · intro w' K hK
    go_wp2
    exact hK
  · rfl
  apply AnyZ.solo (i := 12) rfl (by kernel_rfl)
  intro w3 hC3
  go_wp2
  refine ⟨rfl, hC3.trans ((Below.refl _ _).alloc hC3.size _), ?_⟩
  apply AnyZ.soloW (i := 13) rfl (by kernel_rfl)
  intro w4 hC4
  have hD4 : Rtb w4 base own g t (.slice A t.bs.length c) := (Hh.out.below hC3).below (((Below.refl _ _).alloc (Nat.le_refl _) _).trans (hC4.mono (by simp)))
  have hT4 : Turns own w1 w4 := (Turns.of_below hC3).trans ((Turns.alloc _ _).trans (Turns.of_below hC4))
  have hR4 : Reads w4 (w3.heap.size + 1) 3 (some ⟨w3.heap.size, 0, none⟩) 1 (cellsK [(s, t.most, now)]) := by
    refine ⟨by simp [cellsK], fun _ => ⟨_, rfl, Nat.lt_succ_self _, fun j u hu => ?_⟩⟩
    rw [add_none]
    refine (hC4.cell (by simp)).trans ?_
    rw [Nat.zero_add, cell_new]
    have hcl : cellsK [(s, t.most, now)] = [.string s, .int .i64 t.most, .int .i64 now] := rfl
    rw [hcl] at hu
    simpa using hu
  refine appK (s := .tmp 31) (x := .tmp 39) (l := t.bs) (l2 := [(s, t.most, now)]) (B := w3.heap.size + 1) rfl rfl rfl rfl hD4.row hR4 rfl (by have := Hlt.out; omega) (Nat.le_trans hbase1 hT4.size) ?_
  intro v5 w5 hrow5 hg5 hx5
  have hR5 := hD4.repend hg5 hrow5 (.inr hx5)
  have hlt4 := (hD4.bnd g hD4.ownG).2
  have hfz5 : w5.frozen? ⟨g, 2, none⟩ = false := (World.frozen?_of_block (a := ⟨g, 2, none⟩) (hg5.block g hlt4 (fun e => hD4.gV e.symm))).trans (hD4.unfrozen 2)
  have f5 : w5.cell? ⟨g, 2, none⟩ = some (.slice A t.bs.length c) := (World.cell?_of_block (a := ⟨g, 2, none⟩) (hg5.block g hlt4 (fun e => hD4.gV e.symm))).trans (hD4.field (i := 2) rfl)
  have hln : (t.bs ++ [(s, t.most, now)]).length = t.bs.length + 1 := by simp
  obtain ⟨g5, c5, he5, -, -⟩ := hrow5.form (by simp)
  rw [hln] at he5
  subst he5
  have HR5 := Lib.hid hR5
  have HT4 := Lib.hid hT4
  clear hR5 hrow5 hg5 hx5 hT4 hD4 hR4 hC4 hC3
  refine ⟨rfl, ?_⟩
  apply AnyW.pure (i := 14) rfl (by kernel_rfl) rfl rfl
  · intro w' K hK
    go_wp2
    exact hK
  · rfl
  apply AnyW.pure (i := 15) rfl (by kernel_rfl) rfl rfl
  · intro w' K hK
    go_wp2
    exact hK
  · rfl
  apply AnyW.solo (i := 16) rfl (by kernel_rfl)
  go_wp2
  refine ⟨rfl, ?_⟩
  apply AnyW.done (by kernel_rfl)
  generalize w5.setCell ⟨g, 2, none⟩ (.slice (some ⟨g5, 0, none⟩) (t.bs.length + 1) c5) = w6 at *
  obtain ⟨hD6, hT6, ho6⟩ := HR5.out
  have f2 := hD6.field (i := 2) rfl
  have hb6 : (t.bs ++ [(s, t.most, now)])[t.bs.length]? = some (s, t.most, now) := by simp
  obtain ⟨c60, c61, c62⟩ := hD6.cells hb6
  have z6 := hD6.unfrozenV
  rw [← hln] at hD6
  have hst := hD6.stored (j := 1) (b' := (s, t.most - 1, now)) hb6 (by decide) rfl
  rw [hln] at hst
  have hi0 : (0 : Int) ≤ (t.bs.length : Int) := by omega
  have hi1 : (t.bs.length : Int) < ((t.bs.length + 1 : Nat) : Int) := by omega
  have hi2 : (t.bs.length : Int) < 64 := by have := Hlt.out; omega
  have dn : decide (now < now) = false := decide_eq_false (by omega)
  have dm : decide (t.most < 1) = false := decide_eq_false (by have := Hm.out; omega)
  have hm1 : t.most ≤ 2147483648 := Hm.out.2
  have hm0 : 1 ≤ t.most := Hm.out.1
  have Hst := Lib.hid hst
  have Ho6 := Lib.hid ho6
  have HT6 := Lib.hid hT6
  clear hst ho6 hT6 hD6 hb6 hfz5 f5 HR5
  go_wp2
  go_ret
  obtain ⟨h7, h8⟩ := Hst.out
  have hset : (t.bs ++ [(s, t.most, now)]).set t.bs.length (s, t.most - 1, now) = t.bs ++ [(s, t.most - 1, now)] := by rw [List.set_append_right _ _ (Nat.le_refl _)]; simp
  rw [hset] at h7
  have hsz := HT4.out.size
  have ho7 := fun k hk => (Ho6.out k hk).imp id (fun hk => Nat.le_trans hsz hk)
  exact ⟨rfl, _, _, h7, Turns.then_ (HT4.out.trans HT6.out) h8 ho7, ho7⟩
end Go.Proofs.Ytkbbelbcjokncaa
