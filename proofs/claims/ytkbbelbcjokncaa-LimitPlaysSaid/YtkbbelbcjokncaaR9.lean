/- The reference's Take: where the table is full. No conditions. -/
import Derived.Test.YtkbbelbcjokncaaR8
namespace Go.Proofs.Ytkbbelbcjokncaa
open Go.RowKit
variable {w w' : World} {base g : Nat} {own : Nat → Prop} {t : RT} {V : Value}
set_option maxRecDepth 100000 in
set_option maxHeartbeats 600000 in
theorem RTake_full (h : Rtb w base own g t V) (h64 : t.bs.length = 64) (s : ByteArray) (now : Int) (hm : 1 ≤ t.most ∧ t.most ≤ 2147483648) (hno : t.find s.data.toList = none) :
    Calls Try.prog 13 #[.pointer (some ⟨g, 0, none⟩), .string s, .int .i64 now] w fun e w' => e = .returned (.bool true) ∧ ∃ n, Least t.bs t.bs.length n ∧ n < t.bs.length ∧ AfterR base g own { t with bs := t.bs.eraseIdx n ++ [(s, t.most - 1, now)] } w w' := by
  have hv : findV t s.data.toList = -1 := by unfold findV; rw [hno]
  have Hv := Lib.hid hv
  have d1 : decide ((64 : Int) ≤ (t.bs.length : Int)) = true := decide_eq_true (by omega)
  have f2 := h.field (i := 2) rfl
  obtain ⟨A, c, rfl⟩ := h.form
  have Hh := Lib.hid h
  have Hm0 := Lib.hid hm
  have H64 := Lib.hid h64
  clear hm h hv hno h64
  go_enter Try.func13, Try.ntmps13
  go_wp2_with (first
    | (go_at_call 19; go_must (refine (find_any Hh.out s (by have := H64.out; omega)).mono ?_; rintro e w1 ⟨rfl, rfl⟩; rw [Hv.out]))
    | (go_at_call 20; go_must (refine (leave_any Hh.out (by have := H64.out; omega) (by have := H64.out; omega)).mono ?_; rintro e w1 ⟨rfl, n, hL, hn, own1, V1, hR1, hT1, ho1⟩; have hln1 : (t.bs.eraseIdx n).length = 63 := (by rw [List.length_eraseIdx_of_lt hn, H64.out]); obtain ⟨t1, ht1⟩ : ∃ t1, ({ t with bs := t.bs.eraseIdx n } : RT) = t1 := ⟨_, rfl⟩; rw [ht1] at hR1; have hm1 : 1 ≤ t1.most ∧ t1.most ≤ 2147483648 := (by rw [← ht1]; exact Hm0.out); have hlt1 : t1.bs.length < 64 := (by rw [← ht1]; show (t.bs.eraseIdx n).length < 64; omega); have f2 := hR1.field (i := 2) rfl; obtain ⟨A1, c1, rfl⟩ := hR1.form; have HR1 := Lib.hid hR1; have HT1 := Lib.hid hT1; have HO1 := Lib.hid ho1; have HL := Lib.hid hL; have Hn := Lib.hid hn; have Ht1 := Lib.hid ht1; have Hm := Lib.hid hm1; have Hlt := Lib.hid hlt1; clear hR1 hT1 ho1 hL hn ht1 hm1 hlt1 hln1)))
  have hbase1 : base ≤ w1.heap.size := Nat.le_trans (HR1.out.bnd g HR1.out.ownG).1 (Nat.le_of_lt (HR1.out.bnd g HR1.out.ownG).2)
  refine AnyZ.start [13, 16] (by kernel_rfl) rfl ?_
  apply AnyZ.pure (i := 0) rfl (by kernel_rfl) rfl rfl
  · intro w' K hK
    go_wp2
    exact hK
  · rfl
  apply AnyZ.pure (i := 1) rfl (by kernel_rfl) rfl rfl
  · intro w' K hK
    go_wp2
    exact hK
  · rfl
  apply AnyZ.pure (i := 2) rfl (by kernel_rfl) rfl rfl
  · intro w' K hK
    go_wp2
    exact hK
  · rfl
  apply AnyZ.pure (i := 3) rfl (by kernel_rfl) rfl rfl
  · intro w' K hK
    go_wp2
    exact hK
  · rfl
  apply AnyZ.take (i := 4) rfl (by kernel_rfl) (by kernel_rfl) rfl
  · intro w' hC K hK
    have f2 := (HR1.out.below hC).field (i := 2) rfl
    go_wp2
    exact hK
  · rfl
  apply AnyZ.pure (i := 5) rfl (by kernel_rfl) rfl rfl
  · intro w' K hK
    go_wp2
    exact hK
  · rfl
  apply AnyZ.pure (i := 6) rfl (by kernel_rfl) rfl rfl
  · intro w' K hK
    go_wp2
    exact hK
  · rfl
  apply AnyZ.pure (i := 7) rfl (by kernel_rfl) rfl rfl
  · intro w' K hK
    go_wp2
    exact hK
  · rfl
  apply AnyZ.pure (i := 8) rfl (by kernel_rfl) rfl rfl
  · intro w' K hK
    go_wp2
    exact hK
  · rfl
  apply AnyZ.take (i := 9) rfl (by kernel_rfl) (by kernel_rfl) rfl
  · intro w' hC K hK
    have f0 := (HR1.out.below hC).field (i := 0) rfl
    go_wp2
    exact hK
  · rfl
  apply AnyZ.pure (i := 10) rfl (by kernel_rfl) rfl rfl
  · intro w' K hK
    go_wp2
    exact hK
  · rfl
  apply AnyZ.pure (i := 11) rfl (by kernel_rfl) rfl rfl
  · intro w' K hK
    go_wp2
    exact hK
  · rfl
  apply AnyZ.solo (i := 12) rfl (by kernel_rfl)
  intro w3 hC3
  go_wp2
  refine ⟨rfl, hC3.trans ((Below.refl _ _).alloc hC3.size _), ?_⟩
  apply AnyZ.soloW (i := 13) rfl (by kernel_rfl)
  intro w4 hC4
  have hD4 : Rtb w4 base own1 g t1 (.slice A1 t1.bs.length c1) := (HR1.out.below hC3).below (((Below.refl _ _).alloc (Nat.le_refl _) _).trans (hC4.mono (by simp)))
  have hT4 : Turns own1 w1 w4 := (Turns.of_below hC3).trans ((Turns.alloc _ _).trans (Turns.of_below hC4))
  have hR4 : Reads w4 (w3.heap.size + 1) 3 (some ⟨w3.heap.size, 0, none⟩) 1 (cellsK [(s, t1.most, now)]) := by
    refine ⟨by simp [cellsK], fun _ => ⟨_, rfl, Nat.lt_succ_self _, fun j u hu => ?_⟩⟩
    rw [add_none]
    refine (hC4.cell (by simp)).trans ?_
    rw [Nat.zero_add, cell_new]
    have hcl : cellsK [(s, t1.most, now)] = [.string s, .int .i64 t1.most, .int .i64 now] := rfl
    rw [hcl] at hu
    simpa using hu
  refine appK (s := .tmp 31) (x := .tmp 39) (l := t1.bs) (l2 := [(s, t1.most, now)]) (B := w3.heap.size + 1) rfl rfl rfl rfl hD4.row hR4 rfl (by have := Hlt.out; omega) (Nat.le_trans hbase1 hT4.size) ?_
  intro v5 w5 hrow5 hg5 hx5
  have hR5 := hD4.repend hg5 hrow5 (.inr hx5)
  have hlt4 := (hD4.bnd g hD4.ownG).2
  have hfz5 : w5.frozen? ⟨g, 2, none⟩ = false := (World.frozen?_of_block (a := ⟨g, 2, none⟩) (hg5.block g hlt4 (fun e => hD4.gV e.symm))).trans (hD4.unfrozen 2)
  have f5 : w5.cell? ⟨g, 2, none⟩ = some (.slice A1 t1.bs.length c1) := (World.cell?_of_block (a := ⟨g, 2, none⟩) (hg5.block g hlt4 (fun e => hD4.gV e.symm))).trans (hD4.field (i := 2) rfl)
  have hln : (t1.bs ++ [(s, t1.most, now)]).length = t1.bs.length + 1 := by simp
  obtain ⟨g5, c5, he5, -, -⟩ := hrow5.form (by simp)
  rw [hln] at he5
  subst he5
  have HR5 := Lib.hid hR5
  have HT4 := Lib.hid hT4
  clear hR5 hrow5 hg5 hx5 hT4 hD4 hR4 hC4 hC3
  refine ⟨rfl, ?_⟩
  apply AnyW.pure (i := 14) rfl (by kernel_rfl) rfl rfl
  · intro w' K hK
    go_wp2
    exact hK
  · rfl
  apply AnyW.pure (i := 15) rfl (by kernel_rfl) rfl rfl
  · intro w' K hK
    go_wp2
    exact hK
  · rfl
  apply AnyW.solo (i := 16) rfl (by kernel_rfl)
  go_wp2
  refine ⟨rfl, ?_⟩
  apply AnyW.done (by kernel_rfl)
  generalize w5.setCell ⟨g, 2, none⟩ (.slice (some ⟨g5, 0, none⟩) (t1.bs.length + 1) c5) = w6 at *
  obtain ⟨hD6, hT6, ho6⟩ := HR5.out
  have f2 := hD6.field (i := 2) rfl
  have hb6 : (t1.bs ++ [(s, t1.most, now)])[t1.bs.length]? = some (s, t1.most, now) := by simp
  obtain ⟨c60, c61, c62⟩ := hD6.cells hb6
  have z6 := hD6.unfrozenV
  rw [← hln] at hD6
  have hst := hD6.stored (j := 1) (b' := (s, t1.most - 1, now)) hb6 (by decide) rfl
  rw [hln] at hst
  have hi0 : (0 : Int) ≤ (t1.bs.length : Int) := by omega
  have hi1 : (t1.bs.length : Int) < ((t1.bs.length + 1 : Nat) : Int) := by omega
  have hi2 : (t1.bs.length : Int) < 64 := by have := Hlt.out; omega
  have dn : decide (now < now) = false := decide_eq_false (by omega)
  have dm : decide (t1.most < 1) = false := decide_eq_false (by have := Hm.out; omega)
  have hm1 : t1.most ≤ 2147483648 := Hm.out.2
  have hm0 : 1 ≤ t1.most := Hm.out.1
  have Hst := Lib.hid hst
  have Ho6 := Lib.hid ho6
  have HT6 := Lib.hid hT6
  clear hst ho6 hT6 hD6 hb6 hfz5 f5 HR5
  go_wp2
  go_ret
  obtain ⟨h7, h8⟩ := Hst.out
  have hset : (t1.bs ++ [(s, t1.most, now)]).set t1.bs.length (s, t1.most - 1, now) = t1.bs ++ [(s, t1.most - 1, now)] := by rw [List.set_append_right _ _ (Nat.le_refl _)]; simp
  rw [hset] at h7
  have hsz := HT4.out.size
  have ho7 := fun k hk => (Ho6.out k hk).imp id (fun hk => Nat.le_trans hsz hk)
  have hTf := HT1.out.then_ (Turns.then_ (HT4.out.trans HT6.out) h8 ho7) HO1.out
  have hof := fun k hk => (ho7 k hk).elim (fun hk => HO1.out k hk) (fun hk => .inr (Nat.le_trans HT1.out.size hk))
  have e1 : t1.bs = t.bs.eraseIdx n := by rw [← Ht1.out]
  have e2 : t1.most = t.most := by rw [← Ht1.out]
  have e3 : t1.each = t.each := by rw [← Ht1.out]
  have hE : ({ t with bs := t.bs.eraseIdx n ++ [(s, t.most - 1, now)] } : RT) = { t1 with bs := t1.bs ++ [(s, t1.most - 1, now)] } := by rw [e1, e2, e3]
  refine ⟨rfl, n, HL.out, Hn.out, ?_⟩
  rw [hE]
  exact ⟨_, _, h7, hTf, hof⟩
end Go.Proofs.Ytkbbelbcjokncaa
