/- The walk of the reference's leave. No conditions. -/
import Derived.Test.YtkbbelbcjokncaaR6
namespace Go.Proofs.Ytkbbelbcjokncaa
open Go.RowKit
variable {w w' : World} {base g : Nat} {own : Nat → Prop} {t : RT} {V : Value}
theorem least_new {l : List Bk} {k n : Nat} {b d : Bk} (hL : n < l.length ∧ Least l k n) (hb : l[k]? = some b) (hd : l[n]? = some d) (ho : older b.2.2 (keyOfB b) d.2.2 (keyOfB d)) : k < l.length ∧ Least l (k + 1) k := by
  refine ⟨?_, (hL.2.step hd hb).1 ho⟩
  rcases Nat.lt_or_ge k l.length with h' | h'
  · exact h'
  · rw [List.getElem?_eq_none h'] at hb; cases hb
theorem least_old {l : List Bk} {k n : Nat} {b d : Bk} (hL : n < l.length ∧ Least l k n) (hb : l[k]? = some b) (hd : l[n]? = some d) (ho : ¬ older b.2.2 (keyOfB b) d.2.2 (keyOfB d)) : n < l.length ∧ Least l (k + 1) n := ⟨hL.1, (hL.2.step hd hb).2 ho⟩
set_option maxRecDepth 100000 in
set_option maxHeartbeats 600000 in
theorem leave_any (h : Rtb w base own g t V) (hmax : t.bs.length ≤ 64) (hpos : 0 < t.bs.length) : Calls Try.prog 20 #[.pointer (some ⟨g, 0, none⟩)] w fun e w' => e = .returned (.tuple #[]) ∧ ∃ n, Least t.bs t.bs.length n ∧ n < t.bs.length ∧ AfterR base g own { t with bs := t.bs.eraseIdx n } w w' := by
  have f2 := h.field (i := 2) rfl
  obtain ⟨gV, c, hV, hoV, hgl, _⟩ := h.at_ (List.getElem?_eq_getElem hpos)
  subst hV
  have Hh := Lib.hid h
  clear h
  go_enter Try.func20, Try.ntmps20
  go_wp2
  go_loopw [2, 11] (fun v i wr => ∃ (k n : Nat), k ≤ t.bs.length ∧ i = .int .i64 k ∧ v = .int .i64 n ∧ Hid (Below w.heap.size w wr) ∧ Hid (n < t.bs.length ∧ Least t.bs k n)) (fun _ i _ => t.bs.length - (intOf i).toNat)
  case atStart => exact ⟨0, 0, Nat.zero_le _, rfl, rfl, Below.refl _ _, hpos, by
    obtain ⟨b, hb⟩ : ∃ b, t.bs[0]? = some b := ⟨_, List.getElem?_eq_getElem hpos⟩
    exact ⟨b, hb, fun j c _ h => by omega⟩⟩
  case round =>
    obtain ⟨k, n, hk, rfl, rfl, hB, hL⟩ := hrel
    by_cases hlt : k < t.bs.length
    · have hlt' : (k : Int) < (t.bs.length : Int) := by omega
      have hk0 : (0 : Int) ≤ (k : Int) := by omega
      have hkm : (k : Int) < 64 := by omega
      have hnl : (n : Int) < (t.bs.length : Int) := by have := hL.out.1; omega
      have hn0 : (0 : Int) ≤ (n : Int) := by omega
      obtain ⟨b, hb⟩ : ∃ b, t.bs[k]? = some b := ⟨_, List.getElem?_eq_getElem hlt⟩
      obtain ⟨d, hd⟩ : ∃ d, t.bs[n]? = some d := ⟨_, List.getElem?_eq_getElem hL.out.1⟩
      have Hb := Lib.hid hb
      have Hd := Lib.hid hd
      clear hb hd
      go_wp2
      refine AnyK.start w (by kernel_rfl) rfl ?_
      have hwx : Below w.heap.size w { wr with drawn := wr.drawn + 1 } := hB.out.drew
      generalize ({ wr with drawn := wr.drawn + 1 } : World) = wx at *
      have hsx : w.heap.size ≤ wx.heap.size := hwx.size
      have Hx := Lib.hid hwx
      clear hwx
      apply AnyK.take (i := 0) rfl (by kernel_rfl) rfl
      · intro w' hC K hK
        go_wp2
        exact hK
      · rfl
      apply AnyK.take (i := 1) rfl (by kernel_rfl) rfl
      · intro w' hC K hK
        go_wp2
        exact hK
      · rfl
      apply AnyK.take (i := 2) rfl (by kernel_rfl) rfl
      · intro w' hC K hK
        go_wp2
        exact hK
      · rfl
      apply AnyK.take (i := 3) rfl (by kernel_rfl) rfl
      · intro w' hC K hK
        have f2 := (Hh.out.below hC).field (i := 2) rfl
        go_wp2
        exact hK
      · rfl
      apply AnyK.take (i := 4) rfl (by kernel_rfl) rfl
      · intro w' hC K hK
        go_wp2
        exact hK
      · rfl
      apply AnyK.take (i := 5) rfl (by kernel_rfl) rfl
      · intro w' hC K hK
        go_wp2
        exact hK
      · rfl
      apply AnyK.take (i := 6) rfl (by kernel_rfl) rfl
      · intro w' hC K hK
        obtain ⟨c0, c1, c2⟩ := (Hh.out.below hC).cells Hb.out
        go_wp2
        exact hK
      · rfl
      apply AnyK.take (i := 7) rfl (by kernel_rfl) rfl
      · intro w' hC K hK
        go_wp2
        exact hK
      · rfl
      apply AnyK.take (i := 8) rfl (by kernel_rfl) rfl
      · intro w' hC K hK
        go_wp2
        exact hK
      · rfl
      apply AnyK.take (i := 9) rfl (by kernel_rfl) rfl
      · intro w' hC K hK
        go_wp2
        exact hK
      · rfl
      apply AnyK.take (i := 10) rfl (by kernel_rfl) rfl
      · intro w' hC K hK
        have f2 := (Hh.out.below hC).field (i := 2) rfl
        go_wp2
        exact hK
      · rfl
      apply AnyK.take (i := 11) rfl (by kernel_rfl) rfl
      · intro w' hC K hK
        go_wp2
        exact hK
      · rfl
      apply AnyK.take (i := 12) rfl (by kernel_rfl) rfl
      · intro w' hC K hK
        go_wp2
        exact hK
      · rfl
      apply AnyK.take (i := 13) rfl (by kernel_rfl) rfl
      · intro w' hC K hK
        obtain ⟨c0, c1, c2⟩ := (Hh.out.below hC).cells Hd.out
        go_wp2
        exact hK
      · rfl
      refine AnyK.two (i := 14) (j := 15) rfl rfl (by kernel_rfl) Hx.out ?_ ?_
      · go_wp2
        refine ⟨rfl, ?_⟩
        refine AnyK.solo (i := 15) rfl (by kernel_rfl) ((Hx.out).alloc hsx _) ?_
        go_wp2
        refine ⟨rfl, ?_⟩
        refine AnyK.solo (i := 16) rfl (by kernel_rfl) (((Hx.out).alloc hsx _).alloc (by simp; omega) _) ?_
        go_wp2
        refine ⟨rfl, ?_⟩
        refine AnyK.solo (i := 17) rfl (by kernel_rfl) (((Hx.out).alloc hsx _).alloc (by simp; omega) _) ?_
        go_wp2
        refine ⟨rfl, ?_⟩
        refine AnyK.done (((Hx.out).alloc hsx _).alloc (by simp; omega) _) (by kernel_rfl) ?_
        have hbl : b.1.toList = keyOfB b := ByteArray.toList_eq _
        have hdl : d.1.toList = keyOfB d := ByteArray.toList_eq _
        have Hbl := Lib.hid hbl
        have Hdl := Lib.hid hdl
        clear hbl hdl
        by_cases h1 : b.2.2 < d.2.2
        · have d1 : decide (b.2.2 < d.2.2) = true := decide_eq_true h1
          have h1' := Lib.hid h1
          clear h1
          go_wp2
          go_roundw
          case rel => exact ⟨k + 1, k, hlt, by go_num, rfl, (((Hx.out).alloc hsx _).alloc (by simp; omega) _), least_new hL.out Hb.out Hd.out (.inl h1'.out)⟩
          case measure => simp [intOf]; omega
        · have d1 : decide (b.2.2 < d.2.2) = false := decide_eq_false h1
          by_cases h2 : b.2.2 = d.2.2
          · have d2 : (b.2.2 == d.2.2) = true := by simpa using h2
            have h2' := Lib.hid h2
            have h1' := Lib.hid h1
            clear h1 h2
            cases hb3 : Op.bytesLess b.1.toList d.1.toList with
            | true =>
              have H3 := Lib.hid hb3
              go_wp2
              go_roundw
              case rel => exact ⟨k + 1, k, hlt, by go_num, rfl, (((Hx.out).alloc hsx _).alloc (by simp; omega) _), least_new hL.out Hb.out Hd.out (.inr ⟨h2'.out, by rw [← Hbl.out, ← Hdl.out]; exact H3.out⟩)⟩
              case measure => simp [intOf]; omega
            | false =>
              have H3 := Lib.hid hb3
              go_wp2
              go_roundw
              case rel => exact ⟨k + 1, n, hlt, by go_num, rfl, (((Hx.out).alloc hsx _).alloc (by simp; omega) _), least_old hL.out Hb.out Hd.out (fun ho => by rcases ho with ho | ⟨_, ho⟩; (exact h1'.out ho); rw [← Hbl.out, ← Hdl.out, H3.out] at ho; cases ho)⟩
              case measure => simp [intOf]; omega
          · have d2 : (b.2.2 == d.2.2) = false := by simpa using h2
            have h2' := Lib.hid h2
            have h1' := Lib.hid h1
            clear h1 h2
            go_wp2
            go_roundw
            case rel => exact ⟨k + 1, n, hlt, by go_num, rfl, (((Hx.out).alloc hsx _).alloc (by simp; omega) _), least_old hL.out Hb.out Hd.out (fun ho => by rcases ho with ho | ⟨ho, _⟩; (exact h1'.out ho); exact h2'.out ho)⟩
            case measure => simp [intOf]; omega
      · go_wp2
        refine ⟨rfl, ?_⟩
        refine AnyK.solo (i := 14) rfl (by kernel_rfl) ((Hx.out).alloc hsx _) ?_
        go_wp2
        refine ⟨rfl, ?_⟩
        refine AnyK.solo (i := 16) rfl (by kernel_rfl) (((Hx.out).alloc hsx _).alloc (by simp; omega) _) ?_
        go_wp2
        refine ⟨rfl, ?_⟩
        refine AnyK.solo (i := 17) rfl (by kernel_rfl) (((Hx.out).alloc hsx _).alloc (by simp; omega) _) ?_
        go_wp2
        refine ⟨rfl, ?_⟩
        refine AnyK.done (((Hx.out).alloc hsx _).alloc (by simp; omega) _) (by kernel_rfl) ?_
        have hbl : b.1.toList = keyOfB b := ByteArray.toList_eq _
        have hdl : d.1.toList = keyOfB d := ByteArray.toList_eq _
        have Hbl := Lib.hid hbl
        have Hdl := Lib.hid hdl
        clear hbl hdl
        by_cases h1 : b.2.2 < d.2.2
        · have d1 : decide (b.2.2 < d.2.2) = true := decide_eq_true h1
          have h1' := Lib.hid h1
          clear h1
          go_wp2
          go_roundw
          case rel => exact ⟨k + 1, k, hlt, by go_num, rfl, (((Hx.out).alloc hsx _).alloc (by simp; omega) _), least_new hL.out Hb.out Hd.out (.inl h1'.out)⟩
          case measure => simp [intOf]; omega
        · have d1 : decide (b.2.2 < d.2.2) = false := decide_eq_false h1
          by_cases h2 : b.2.2 = d.2.2
          · have d2 : (b.2.2 == d.2.2) = true := by simpa using h2
            have h2' := Lib.hid h2
            have h1' := Lib.hid h1
            clear h1 h2
            cases hb3 : Op.bytesLess b.1.toList d.1.toList with
            | true =>
              have H3 := Lib.hid hb3
              go_wp2
              go_roundw
              case rel => exact ⟨k + 1, k, hlt, by go_num, rfl, (((Hx.out).alloc hsx _).alloc (by simp; omega) _), least_new hL.out Hb.out Hd.out (.inr ⟨h2'.out, by rw [← Hbl.out, ← Hdl.out]; exact H3.out⟩)⟩
              case measure => simp [intOf]; omega
            | false =>
              have H3 := Lib.hid hb3
              go_wp2
              go_roundw
              case rel => exact ⟨k + 1, n, hlt, by go_num, rfl, (((Hx.out).alloc hsx _).alloc (by simp; omega) _), least_old hL.out Hb.out Hd.out (fun ho => by rcases ho with ho | ⟨_, ho⟩; (exact h1'.out ho); rw [← Hbl.out, ← Hdl.out, H3.out] at ho; cases ho)⟩
              case measure => simp [intOf]; omega
          · have d2 : (b.2.2 == d.2.2) = false := by simpa using h2
            have h2' := Lib.hid h2
            have h1' := Lib.hid h1
            clear h1 h2
            go_wp2
            go_roundw
            case rel => exact ⟨k + 1, n, hlt, by go_num, rfl, (((Hx.out).alloc hsx _).alloc (by simp; omega) _), least_old hL.out Hb.out Hd.out (fun ho => by rcases ho with ho | ⟨ho, _⟩; (exact h1'.out ho); exact h2'.out ho)⟩
            case measure => simp [intOf]; omega
    · obtain rfl : k = t.bs.length := by omega
      have hR := Hh.out.below hB.out
      have hcap := row_cap hR.row
      have hnl := hL.out.1
      have hn0 : (0 : Int) ≤ (n : Int) := by omega
      have hnl' : (n : Int) + 1 ≤ (t.bs.length : Int) := by omega
      have hnc : (n : Int) ≤ (c : Int) := by omega
      have hlc : (t.bs.length : Int) ≤ (c : Int) := by omega
      have hnm : (n : Int) < 64 := by omega
      have HR := Lib.hid hR
      have Hcap := Lib.hid hcap
      clear hR hcap
      go_wp2
      obtain ⟨X62, hX⟩ : ∃ X, X = (if c = n + 1 then (some ⟨gV, 0, none⟩ : Option Addr) else (some ⟨gV, 0, none⟩ : Option Addr).map (·.add ((n + 1) * 3))) := ⟨_, rfl⟩
      have HX := Lib.hid hX
      clear hX
      refine AnyZ.start [14, 17] (by kernel_rfl) rfl ?_
      apply AnyZ.pure (i := 0) rfl (by kernel_rfl) rfl rfl
      · intro w' K hK
        go_wp2
        exact hK
      · rfl
      apply AnyZ.pure (i := 1) rfl (by kernel_rfl) rfl rfl
      · intro w' K hK
        go_wp2
        exact hK
      · rfl
      apply AnyZ.pure (i := 2) rfl (by kernel_rfl) rfl rfl
      · intro w' K hK
        go_wp2
        exact hK
      · rfl
      apply AnyZ.pure (i := 3) rfl (by kernel_rfl) rfl rfl
      · intro w' K hK
        go_wp2
        exact hK
      · rfl
      apply AnyZ.take (i := 4) rfl (by kernel_rfl) (by kernel_rfl) rfl
      · intro w' hC K hK
        have f2 := (HR.out.below hC).field (i := 2) rfl
        go_wp2
        exact hK
      · rfl
      apply AnyZ.pure (i := 5) rfl (by kernel_rfl) rfl rfl
      · intro w' K hK
        go_wp2
        exact hK
      · rfl
      apply AnyZ.pure (i := 6) rfl (by kernel_rfl) rfl rfl
      · intro w' K hK
        go_wp2
        exact hK
      · rfl
      apply AnyZ.pure (i := 7) rfl (by kernel_rfl) rfl rfl
      · intro w' K hK
        go_wp2
        exact hK
      · rfl
      apply AnyZ.pure (i := 8) rfl (by kernel_rfl) rfl rfl
      · intro w' K hK
        go_wp2
        exact hK
      · rfl
      apply AnyZ.pure (i := 9) rfl (by kernel_rfl) rfl rfl
      · intro w' K hK
        go_wp2
        exact hK
      · rfl
      apply AnyZ.take (i := 10) rfl (by kernel_rfl) (by kernel_rfl) rfl
      · intro w' hC K hK
        have f2 := (HR.out.below hC).field (i := 2) rfl
        go_wp2
        exact hK
      · rfl
      apply AnyZ.pure (i := 11) rfl (by kernel_rfl) rfl rfl
      · intro w' K hK
        go_wp2
        exact hK
      · rfl
      apply AnyZ.pure (i := 12) rfl (by kernel_rfl) rfl rfl
      · intro w' K hK
        go_wp2
        exact hK
      · rfl
      apply AnyZ.pure (i := 13) rfl (by kernel_rfl) rfl rfl
      · intro w' K hK
        refine wpList_bucketsFrom rfl (.tmp 59) (.tmp 61) rfl (some ⟨gV, 0, none⟩) t.bs.length c (n + 1) rfl rfl hnl ?_
        rw [← HX.out]
        exact hK
      · rfl
      apply AnyZ.soloW (i := 14) rfl (by kernel_rfl)
      intro w4 hC4
      have hD4 := HR.out.below hC4
      have hT4 : Turns own w w4 := (Turns.of_below hB.out).trans (Turns.of_below hC4)
      have hl4 : (t.bs.take n).length = n := by rw [List.length_take]; omega
      have hR4 := (Reads.of_own hD4.row).cut (k := n + 1) (cap := c) hnl Hcap.out.1
      rw [← cellsK_drop, ← HX.out] at hR4
      have hrow4 := row_cut hD4.row (m := n) (by omega)
      rw [← cellsK_take] at hrow4
      have hbase4 : base ≤ w4.heap.size := Nat.le_trans (hD4.bnd g hD4.ownG).1 (Nat.le_of_lt (hD4.bnd g hD4.ownG).2)
      refine appK (s := .tmp 55) (x := .tmp 62) (l := t.bs.take n) (l2 := t.bs.drop (n + 1)) rfl rfl rfl rfl (by rw [hl4]; exact hrow4) hR4 (by rw [List.length_drop]) (by rw [hl4]; omega) hbase4 ?_
      intro v5 w5 hrow5 hg5 hx5
      rw [← List.eraseIdx_eq_take_drop_succ] at hrow5
      have hR5 := hD4.repend hg5 hrow5 (.inr hx5)
      have hlt4 := (hD4.bnd g hD4.ownG).2
      have hfz5 : w5.frozen? ⟨g, 2, none⟩ = false := (World.frozen?_of_block (a := ⟨g, 2, none⟩) (hg5.block g hlt4 (fun e => hD4.gV e.symm))).trans (hD4.unfrozen 2)
      have f5 : w5.cell? ⟨g, 2, none⟩ = some (.slice (some ⟨gV, 0, none⟩) t.bs.length c) := (World.cell?_of_block (a := ⟨g, 2, none⟩) (hg5.block g hlt4 (fun e => hD4.gV e.symm))).trans (hD4.field (i := 2) rfl)
      obtain ⟨A5, n5, c5, he5⟩ : ∃ A5 n5 c5, v5 = .slice A5 n5 c5 := by
        obtain ⟨_, ⟨h, _⟩ | ⟨g', cap, cur, h, _⟩⟩ := hrow5
        · exact ⟨none, 0, 0, h⟩
        · exact ⟨_, _, _, h⟩
      subst he5
      have HR5 := Lib.hid hR5
      have HT4 := Lib.hid hT4
      clear hR5 hrow5 hg5 hx5 hT4 hD4 hR4 hrow4 hl4
      refine ⟨rfl, ?_⟩
      apply AnyW.pure (i := 15) rfl (by kernel_rfl) rfl rfl
      · intro w' K hK
        go_wp2
        exact hK
      · rfl
      apply AnyW.pure (i := 16) rfl (by kernel_rfl) rfl rfl
      · intro w' K hK
        go_wp2
        exact hK
      · rfl
      apply AnyW.solo (i := 17) rfl (by kernel_rfl)
      go_wp2
      refine ⟨rfl, ?_⟩
      apply AnyW.done (by kernel_rfl)
      go_wp2
      go_end0
      obtain ⟨hD6, hT6, ho6⟩ := HR5.out
      exact ⟨rfl, n, hL.out.2, hL.out.1, _, _, hD6, HT4.out.trans hT6, fun k hk => (ho6 k hk).imp id fun hk => by have := HT4.out.size; omega⟩
end Go.Proofs.Ytkbbelbcjokncaa
