/- The texts V3c V3d of this work, merged by wip/merge.py. No conditions. -/
import Derived.Test.YtbpgbihcihnieaaQV3b
namespace Go.Proofs.Ytbpgbihcihnieaa
open Go.RowKit
set_option maxRecDepth 100000 in
set_option maxHeartbeats 4000000 in
theorem EncodeRoot_any (r : RootV) (hr : r.ok) (w : World) : Calls Try.prog 29 #[.agg r.cs] w (BPost (signB r) w) := by
  have F : Hid (Below w.heap.size w (w.alloc (.cells r.cs 47)) ∧ (w.alloc (.cells r.cs 47)).heap[w.heap.size]? = some (.cells r.cs 47 (0, 0))) := ⟨(Below.refl _ _).alloc (Nat.le_refl _) _, heap_alloc_new w _⟩
  have Hr := Lib.hid hr
  obtain ⟨cs, hcs⟩ : ∃ cs, cs = r.cs := ⟨_, rfl⟩
  rw [← hcs] at F ⊢
  have Hcs := Lib.hid hcs
  clear hr hcs
  go_enter Try.func29, Try.ntmps29
  go_wp2
  refine AnyC.startB (fun w' => w'.heap[w.heap.size]? = some (.cells r.cs 47 (0, 0))) (by kernel_rfl) rfl ?_
  intro w4 hb4 hs4
  clear hs4
  have B4 : Hid (Below w.heap.size w w4) := F.out.1.trans (hb4.mono F.out.1.size)
  have R4 : Hid (w4.heap[w.heap.size]? = some (.cells r.cs 47 (0, 0))) := by have h_ := heap_below F.out.2 hb4; rw [Hcs.out] at h_; exact h_
  clear hb4 F
  apply AnyC.take (i := 2) rfl (by kernel_rfl) rfl
  · intro w' hC K hK
    refine wpList_load_arr rfl _ _ rfl w.heap.size 0 rfl r.cs _ (by with_reducible exact range_row hC) Try.underlying47 rfl (by rw [root_size Hr.out]; kernel_rfl) ?_
    go_wp2
    exact hK
  · rfl
  apply AnyC.take (i := 4) rfl (by kernel_rfl) rfl
  · intro w' hC K hK
    go_wp2
    exact hK
  · rfl
  apply AnyC.take (i := 5) rfl (by kernel_rfl) rfl
  · intro w' hC K hK
    go_wp2
    exact hK
  · rfl
  apply AnyC.two (i := 0) (j := 3) rfl rfl (by kernel_rfl) R4.out
  · go_wp2
    refine ⟨rfl, ?_⟩
    obtain ⟨w5, hw⟩ : ∃ w5, w5 = w4.alloc (.cells #[.int .u8 115, .int .u8 105, .int .u8 103, .int .u8 110, .int .u8 101, .int .u8 100] 5) := ⟨_, rfl⟩
    rw [← hw]
    obtain ⟨bq, hbq⟩ : ∃ bq, bq = w4.heap.size := ⟨_, rfl⟩
    rw [← hbq]
    have hb : Below w4.heap.size w4 w5 := by rw [hw]; exact (Below.refl _ _).alloc (Nat.le_refl _) _
    have Q_5 : Hid (w5.heap[bq]? = some (.cells #[.int .u8 115, .int .u8 105, .int .u8 103, .int .u8 110, .int .u8 101, .int .u8 100] 5 (0, 0))) := by show _ = _; rw [hw, hbq]; exact heap_alloc_new w4 _
    have BQ : Hid (w.heap.size < bq) := by show _ < _; rw [hbq]; exact lt_of_heap R4.out
    have B5 := Lib.hid (B4.out.trans (hb.mono B4.out.size))
    have R5 := Lib.hid (heap_below R4.out hb)
    clear hb hw hbq
    apply AnyC.two (i := 1) (j := 3) rfl rfl (by kernel_rfl) R5.out
    · have hcv := run_conv_mark (n := 6) (c := 6) (m := 6) Q_5.out rfl
      have MW := Lib.hid (mark_world (n := 6) Q_5.out)
      go_wp2
      refine ⟨rfl, ?_⟩
      clear hcv
      obtain ⟨w6, hw⟩ : ∃ w6, w6 = w5.freeze ⟨bq, 6, none⟩ 1 := ⟨_, rfl⟩
      rw [← hw]
      rw [← hw] at MW
      have W_6 := Lib.hid ((Itm.row (n := 6) Q_5.out signedW_cells rfl).cells MW.out.1 MW.out.2.1)
      have B6 := Lib.hid (B5.out.trans (MW.out.2.2.2 _ (Nat.le_of_lt BQ.out)))
      have R6 := Lib.hid ((MW.out.2.2.1 _ (Nat.ne_of_lt BQ.out)).trans R5.out)
      clear hw MW
      apply AnyC.solo (i := 3) rfl (by kernel_rfl) R6.out
      go_wp2_with (go_at_call 30; go_must (refine (RootBytes_any r Hr.out _).mono ?_; rintro e w7 ⟨xN, rfl, hown, hb⟩; have N_7 := Lib.hid (Itm.own hown); obtain ⟨AN, cN, rfl, hcl, hrd⟩ := own8_form hown; clear hcl hrd; have B7 := Lib.hid (B6.out.trans (hb.mono B6.out.size)); have R7 := Lib.hid (heap_below R6.out hb); have W_7 := Lib.hid (W_6.out.below hb); clear hown hb))
      refine ⟨rfl, ?_⟩
      apply AnyC.solo (i := 6) rfl (by kernel_rfl) R7.out
      go_wp2
      refine ⟨rfl, ?_⟩
      have LS := Lib.hid (Itms.lists (.cons W_7.out (.cons N_7.out (.cons (root_parts Hr.out R7.out).2.2.2 Itms.nil))) 24)
      have BL : Hid (∀ o, Below w.heap.size w (w7.alloc o) ∧ Below w7.heap.size w7 (w7.alloc o)) := fun o => ⟨B7.out.alloc B7.out.size _, (Below.refl _ _).alloc (Nat.le_refl _) _⟩
      apply AnyC.solo (i := 7) rfl (by kernel_rfl) (heap_below R7.out (BL.out _).2)
      go_wp2_with (go_at_call 56; go_must (refine (must_any (some ⟨w7.heap.size, 0, none⟩) 3 3 (signL r) _ LS.out rfl (by decide)).mono ?_; rintro e w8 ⟨v, rfl, ho, hb⟩; obtain ⟨A1, c1, rfl, hc1, hr1⟩ := own8_form ho; have O8 := Lib.hid (own8_base ho (BL.out _).1.size); have B8 := Lib.hid ((BL.out _).1.trans (hb.mono (BL.out _).1.size)); have R8 := Lib.hid (heap_below (heap_below R7.out (BL.out _).2) hb); clear ho hb hr1 hc1))
      refine ⟨rfl, ?_⟩
      apply AnyC.take (i := 8) rfl (by kernel_rfl) rfl
      · intro w' hC K hK
        go_wp2
        exact hK
      · rfl
      refine AnyC.done R8.out (by kernel_rfl) ?_
      go_wp2
      refine bodyPost_ret (v := .slice A1 (encB (signL r)).length c1) (by simp [results, Try.results29]) rfl ⟨_, rfl, O8.out, B8.out⟩
    · go_wp2_with (go_at_call 30; go_must (refine (RootBytes_any r Hr.out _).mono ?_; rintro e w9 ⟨xN, rfl, hown, hb⟩; have N_9 := Lib.hid (Itm.own hown); obtain ⟨AN, cN, rfl, hcl, hrd⟩ := own8_form hown; clear hcl hrd; have B9 := Lib.hid (B5.out.trans (hb.mono B5.out.size)); have R9 := Lib.hid (heap_below R5.out hb); have Q_9 := Lib.hid (heap_below Q_5.out hb); clear hown hb))
      refine ⟨rfl, ?_⟩
      apply AnyC.solo (i := 1) rfl (by kernel_rfl) R9.out
      have hcv := run_conv_mark (n := 6) (c := 6) (m := 6) Q_9.out rfl
      have MW := Lib.hid (mark_world (n := 6) Q_9.out)
      go_wp2
      refine ⟨rfl, ?_⟩
      clear hcv
      obtain ⟨w10, hw⟩ : ∃ w10, w10 = w9.freeze ⟨bq, 6, none⟩ 1 := ⟨_, rfl⟩
      rw [← hw]
      rw [← hw] at MW
      have W_10 := Lib.hid ((Itm.row (n := 6) Q_9.out signedW_cells rfl).cells MW.out.1 MW.out.2.1)
      have B10 := Lib.hid (B9.out.trans (MW.out.2.2.2 _ (Nat.le_of_lt BQ.out)))
      have R10 := Lib.hid ((MW.out.2.2.1 _ (Nat.ne_of_lt BQ.out)).trans R9.out)
      have N_10 := Lib.hid (N_9.out.cells MW.out.1 MW.out.2.1)
      clear hw MW
      apply AnyC.solo (i := 6) rfl (by kernel_rfl) R10.out
      go_wp2
      refine ⟨rfl, ?_⟩
      have LS := Lib.hid (Itms.lists (.cons W_10.out (.cons N_10.out (.cons (root_parts Hr.out R10.out).2.2.2 Itms.nil))) 24)
      have BL : Hid (∀ o, Below w.heap.size w (w10.alloc o) ∧ Below w10.heap.size w10 (w10.alloc o)) := fun o => ⟨B10.out.alloc B10.out.size _, (Below.refl _ _).alloc (Nat.le_refl _) _⟩
      apply AnyC.solo (i := 7) rfl (by kernel_rfl) (heap_below R10.out (BL.out _).2)
      go_wp2_with (go_at_call 56; go_must (refine (must_any (some ⟨w10.heap.size, 0, none⟩) 3 3 (signL r) _ LS.out rfl (by decide)).mono ?_; rintro e w11 ⟨v, rfl, ho, hb⟩; obtain ⟨A1, c1, rfl, hc1, hr1⟩ := own8_form ho; have O11 := Lib.hid (own8_base ho (BL.out _).1.size); have B11 := Lib.hid ((BL.out _).1.trans (hb.mono (BL.out _).1.size)); have R11 := Lib.hid (heap_below (heap_below R10.out (BL.out _).2) hb); clear ho hb hr1 hc1))
      refine ⟨rfl, ?_⟩
      apply AnyC.take (i := 8) rfl (by kernel_rfl) rfl
      · intro w' hC K hK
        go_wp2
        exact hK
      · rfl
      refine AnyC.done R11.out (by kernel_rfl) ?_
      go_wp2
      refine bodyPost_ret (v := .slice A1 (encB (signL r)).length c1) (by simp [results, Try.results29]) rfl ⟨_, rfl, O11.out, B11.out⟩
  · go_wp2_with (go_at_call 30; go_must (refine (RootBytes_any r Hr.out _).mono ?_; rintro e w12 ⟨xN, rfl, hown, hb⟩; have N_12 := Lib.hid (Itm.own hown); obtain ⟨AN, cN, rfl, hcl, hrd⟩ := own8_form hown; clear hcl hrd; have B12 := Lib.hid (B4.out.trans (hb.mono B4.out.size)); have R12 := Lib.hid (heap_below R4.out hb); clear hown hb))
    refine ⟨rfl, ?_⟩
    apply AnyC.solo (i := 0) rfl (by kernel_rfl) R12.out
    go_wp2
    refine ⟨rfl, ?_⟩
    obtain ⟨w13, hw⟩ : ∃ w13, w13 = w12.alloc (.cells #[.int .u8 115, .int .u8 105, .int .u8 103, .int .u8 110, .int .u8 101, .int .u8 100] 5) := ⟨_, rfl⟩
    rw [← hw]
    obtain ⟨bq, hbq⟩ : ∃ bq, bq = w12.heap.size := ⟨_, rfl⟩
    rw [← hbq]
    have hb : Below w12.heap.size w12 w13 := by rw [hw]; exact (Below.refl _ _).alloc (Nat.le_refl _) _
    have Q_13 : Hid (w13.heap[bq]? = some (.cells #[.int .u8 115, .int .u8 105, .int .u8 103, .int .u8 110, .int .u8 101, .int .u8 100] 5 (0, 0))) := by show _ = _; rw [hw, hbq]; exact heap_alloc_new w12 _
    have BQ : Hid (w.heap.size < bq) := by show _ < _; rw [hbq]; exact lt_of_heap R12.out
    have B13 := Lib.hid (B12.out.trans (hb.mono B12.out.size))
    have R13 := Lib.hid (heap_below R12.out hb)
    have N_13 := Lib.hid (N_12.out.below hb)
    clear hb hw hbq
    apply AnyC.solo (i := 1) rfl (by kernel_rfl) R13.out
    have hcv := run_conv_mark (n := 6) (c := 6) (m := 6) Q_13.out rfl
    have MW := Lib.hid (mark_world (n := 6) Q_13.out)
    go_wp2
    refine ⟨rfl, ?_⟩
    clear hcv
    obtain ⟨w14, hw⟩ : ∃ w14, w14 = w13.freeze ⟨bq, 6, none⟩ 1 := ⟨_, rfl⟩
    rw [← hw]
    rw [← hw] at MW
    have W_14 := Lib.hid ((Itm.row (n := 6) Q_13.out signedW_cells rfl).cells MW.out.1 MW.out.2.1)
    have B14 := Lib.hid (B13.out.trans (MW.out.2.2.2 _ (Nat.le_of_lt BQ.out)))
    have R14 := Lib.hid ((MW.out.2.2.1 _ (Nat.ne_of_lt BQ.out)).trans R13.out)
    have N_14 := Lib.hid (N_13.out.cells MW.out.1 MW.out.2.1)
    clear hw MW
    apply AnyC.solo (i := 6) rfl (by kernel_rfl) R14.out
    go_wp2
    refine ⟨rfl, ?_⟩
    have LS := Lib.hid (Itms.lists (.cons W_14.out (.cons N_14.out (.cons (root_parts Hr.out R14.out).2.2.2 Itms.nil))) 24)
    have BL : Hid (∀ o, Below w.heap.size w (w14.alloc o) ∧ Below w14.heap.size w14 (w14.alloc o)) := fun o => ⟨B14.out.alloc B14.out.size _, (Below.refl _ _).alloc (Nat.le_refl _) _⟩
    apply AnyC.solo (i := 7) rfl (by kernel_rfl) (heap_below R14.out (BL.out _).2)
    go_wp2_with (go_at_call 56; go_must (refine (must_any (some ⟨w14.heap.size, 0, none⟩) 3 3 (signL r) _ LS.out rfl (by decide)).mono ?_; rintro e w15 ⟨v, rfl, ho, hb⟩; obtain ⟨A1, c1, rfl, hc1, hr1⟩ := own8_form ho; have O15 := Lib.hid (own8_base ho (BL.out _).1.size); have B15 := Lib.hid ((BL.out _).1.trans (hb.mono (BL.out _).1.size)); have R15 := Lib.hid (heap_below (heap_below R14.out (BL.out _).2) hb); clear ho hb hr1 hc1))
    refine ⟨rfl, ?_⟩
    apply AnyC.take (i := 8) rfl (by kernel_rfl) rfl
    · intro w' hC K hK
      go_wp2
      exact hK
    · rfl
    refine AnyC.done R15.out (by kernel_rfl) ?_
    go_wp2
    refine bodyPost_ret (v := .slice A1 (encB (signL r)).length c1) (by simp [results, Try.results29]) rfl ⟨_, rfl, O15.out, B15.out⟩
end Go.Proofs.Ytbpgbihcihnieaa

namespace Go.Proofs.Ytbpgbihcihnieaa
open Go.RowKit
set_option maxRecDepth 100000 in
set_option maxHeartbeats 4000000 in
theorem rEncodeRoot_any (r : RootV) (hr : r.ok) (w : World) : Calls Try.prog 32 #[.agg r.cs] w (BPost (signB r) w) := by
  have F : Hid (Below w.heap.size w (w.alloc (.cells r.cs 47)) ∧ (w.alloc (.cells r.cs 47)).heap[w.heap.size]? = some (.cells r.cs 47 (0, 0))) := ⟨(Below.refl _ _).alloc (Nat.le_refl _) _, heap_alloc_new w _⟩
  have Hr := Lib.hid hr
  obtain ⟨cs, hcs⟩ : ∃ cs, cs = r.cs := ⟨_, rfl⟩
  rw [← hcs] at F ⊢
  have Hcs := Lib.hid hcs
  clear hr hcs
  go_enter Try.func32, Try.ntmps32
  go_wp2
  refine AnyC.startB (fun w' => w'.heap[w.heap.size]? = some (.cells r.cs 47 (0, 0))) (by kernel_rfl) rfl ?_
  intro w4 hb4 hs4
  clear hs4
  have B4 : Hid (Below w.heap.size w w4) := F.out.1.trans (hb4.mono F.out.1.size)
  have R4 : Hid (w4.heap[w.heap.size]? = some (.cells r.cs 47 (0, 0))) := by have h_ := heap_below F.out.2 hb4; rw [Hcs.out] at h_; exact h_
  clear hb4 F
  apply AnyC.take (i := 2) rfl (by kernel_rfl) rfl
  · intro w' hC K hK
    refine wpList_load_arr rfl _ _ rfl w.heap.size 0 rfl r.cs _ (by with_reducible exact range_row hC) Try.underlying47 rfl (by rw [root_size Hr.out]; kernel_rfl) ?_
    go_wp2
    exact hK
  · rfl
  apply AnyC.take (i := 4) rfl (by kernel_rfl) rfl
  · intro w' hC K hK
    go_wp2
    exact hK
  · rfl
  apply AnyC.take (i := 5) rfl (by kernel_rfl) rfl
  · intro w' hC K hK
    go_wp2
    exact hK
  · rfl
  apply AnyC.two (i := 0) (j := 3) rfl rfl (by kernel_rfl) R4.out
  · go_wp2
    refine ⟨rfl, ?_⟩
    obtain ⟨w5, hw⟩ : ∃ w5, w5 = w4.alloc (.cells #[.int .u8 115, .int .u8 105, .int .u8 103, .int .u8 110, .int .u8 101, .int .u8 100] 5) := ⟨_, rfl⟩
    rw [← hw]
    obtain ⟨bq, hbq⟩ : ∃ bq, bq = w4.heap.size := ⟨_, rfl⟩
    rw [← hbq]
    have hb : Below w4.heap.size w4 w5 := by rw [hw]; exact (Below.refl _ _).alloc (Nat.le_refl _) _
    have Q_5 : Hid (w5.heap[bq]? = some (.cells #[.int .u8 115, .int .u8 105, .int .u8 103, .int .u8 110, .int .u8 101, .int .u8 100] 5 (0, 0))) := by show _ = _; rw [hw, hbq]; exact heap_alloc_new w4 _
    have BQ : Hid (w.heap.size < bq) := by show _ < _; rw [hbq]; exact lt_of_heap R4.out
    have B5 := Lib.hid (B4.out.trans (hb.mono B4.out.size))
    have R5 := Lib.hid (heap_below R4.out hb)
    clear hb hw hbq
    apply AnyC.two (i := 1) (j := 3) rfl rfl (by kernel_rfl) R5.out
    · have hcv := run_conv_mark (n := 6) (c := 6) (m := 6) Q_5.out rfl
      have MW := Lib.hid (mark_world (n := 6) Q_5.out)
      go_wp2
      refine ⟨rfl, ?_⟩
      clear hcv
      obtain ⟨w6, hw⟩ : ∃ w6, w6 = w5.freeze ⟨bq, 6, none⟩ 1 := ⟨_, rfl⟩
      rw [← hw]
      rw [← hw] at MW
      have W_6 := Lib.hid ((Itm.row (n := 6) Q_5.out signedW_cells rfl).cells MW.out.1 MW.out.2.1)
      have B6 := Lib.hid (B5.out.trans (MW.out.2.2.2 _ (Nat.le_of_lt BQ.out)))
      have R6 := Lib.hid ((MW.out.2.2.1 _ (Nat.ne_of_lt BQ.out)).trans R5.out)
      clear hw MW
      apply AnyC.solo (i := 3) rfl (by kernel_rfl) R6.out
      go_wp2_with (go_at_call 31; go_must (refine (rRootBytes_any r Hr.out _).mono ?_; rintro e w7 ⟨xN, rfl, hown, hb⟩; have N_7 := Lib.hid (Itm.own hown); obtain ⟨AN, cN, rfl, hcl, hrd⟩ := own8_form hown; clear hcl hrd; have B7 := Lib.hid (B6.out.trans (hb.mono B6.out.size)); have R7 := Lib.hid (heap_below R6.out hb); have W_7 := Lib.hid (W_6.out.below hb); clear hown hb))
      refine ⟨rfl, ?_⟩
      apply AnyC.solo (i := 6) rfl (by kernel_rfl) R7.out
      go_wp2
      refine ⟨rfl, ?_⟩
      have LS := Lib.hid (Itms.lists (.cons W_7.out (.cons N_7.out (.cons (root_parts Hr.out R7.out).2.2.2 Itms.nil))) 24)
      have BL : Hid (∀ o, Below w.heap.size w (w7.alloc o) ∧ Below w7.heap.size w7 (w7.alloc o)) := fun o => ⟨B7.out.alloc B7.out.size _, (Below.refl _ _).alloc (Nat.le_refl _) _⟩
      apply AnyC.solo (i := 7) rfl (by kernel_rfl) (heap_below R7.out (BL.out _).2)
      go_wp2_with (go_at_call 13; go_must (refine (rEncode_any (some ⟨w7.heap.size, 0, none⟩) 3 (signL r) _ LS.out (by simp [signL])).mono ?_; rintro e w8 ⟨v, rfl, ho, hb⟩; obtain ⟨A1, c1, rfl, hc1, hr1⟩ := own8_form ho; have O8 := Lib.hid (own8_base ho (BL.out _).1.size); have B8 := Lib.hid ((BL.out _).1.trans (hb.mono (BL.out _).1.size)); have R8 := Lib.hid (heap_below (heap_below R7.out (BL.out _).2) hb); clear ho hb hr1 hc1))
      refine ⟨rfl, ?_⟩
      apply AnyC.take (i := 8) rfl (by kernel_rfl) rfl
      · intro w' hC K hK
        go_wp2
        exact hK
      · rfl
      apply AnyC.take (i := 9) rfl (by kernel_rfl) rfl
      · intro w' hC K hK
        go_wp2
        exact hK
      · rfl
      apply AnyC.take (i := 10) rfl (by kernel_rfl) rfl
      · intro w' hC K hK
        go_wp2
        exact hK
      · rfl
      apply AnyC.take (i := 11) rfl (by kernel_rfl) rfl
      · intro w' hC K hK
        go_wp2
        exact hK
      · rfl
      apply AnyC.take (i := 12) rfl (by kernel_rfl) rfl
      · intro w' hC K hK
        go_wp2
        exact hK
      · rfl
      refine AnyC.done R8.out (by kernel_rfl) ?_
      go_wp2
      refine bodyPost_ret (v := .slice A1 (encB (signL r)).length c1) (by simp [results, Try.results32]) rfl ⟨_, rfl, O8.out, B8.out⟩
    · go_wp2_with (go_at_call 31; go_must (refine (rRootBytes_any r Hr.out _).mono ?_; rintro e w9 ⟨xN, rfl, hown, hb⟩; have N_9 := Lib.hid (Itm.own hown); obtain ⟨AN, cN, rfl, hcl, hrd⟩ := own8_form hown; clear hcl hrd; have B9 := Lib.hid (B5.out.trans (hb.mono B5.out.size)); have R9 := Lib.hid (heap_below R5.out hb); have Q_9 := Lib.hid (heap_below Q_5.out hb); clear hown hb))
      refine ⟨rfl, ?_⟩
      apply AnyC.solo (i := 1) rfl (by kernel_rfl) R9.out
      have hcv := run_conv_mark (n := 6) (c := 6) (m := 6) Q_9.out rfl
      have MW := Lib.hid (mark_world (n := 6) Q_9.out)
      go_wp2
      refine ⟨rfl, ?_⟩
      clear hcv
      obtain ⟨w10, hw⟩ : ∃ w10, w10 = w9.freeze ⟨bq, 6, none⟩ 1 := ⟨_, rfl⟩
      rw [← hw]
      rw [← hw] at MW
      have W_10 := Lib.hid ((Itm.row (n := 6) Q_9.out signedW_cells rfl).cells MW.out.1 MW.out.2.1)
      have B10 := Lib.hid (B9.out.trans (MW.out.2.2.2 _ (Nat.le_of_lt BQ.out)))
      have R10 := Lib.hid ((MW.out.2.2.1 _ (Nat.ne_of_lt BQ.out)).trans R9.out)
      have N_10 := Lib.hid (N_9.out.cells MW.out.1 MW.out.2.1)
      clear hw MW
      apply AnyC.solo (i := 6) rfl (by kernel_rfl) R10.out
      go_wp2
      refine ⟨rfl, ?_⟩
      have LS := Lib.hid (Itms.lists (.cons W_10.out (.cons N_10.out (.cons (root_parts Hr.out R10.out).2.2.2 Itms.nil))) 24)
      have BL : Hid (∀ o, Below w.heap.size w (w10.alloc o) ∧ Below w10.heap.size w10 (w10.alloc o)) := fun o => ⟨B10.out.alloc B10.out.size _, (Below.refl _ _).alloc (Nat.le_refl _) _⟩
      apply AnyC.solo (i := 7) rfl (by kernel_rfl) (heap_below R10.out (BL.out _).2)
      go_wp2_with (go_at_call 13; go_must (refine (rEncode_any (some ⟨w10.heap.size, 0, none⟩) 3 (signL r) _ LS.out (by simp [signL])).mono ?_; rintro e w11 ⟨v, rfl, ho, hb⟩; obtain ⟨A1, c1, rfl, hc1, hr1⟩ := own8_form ho; have O11 := Lib.hid (own8_base ho (BL.out _).1.size); have B11 := Lib.hid ((BL.out _).1.trans (hb.mono (BL.out _).1.size)); have R11 := Lib.hid (heap_below (heap_below R10.out (BL.out _).2) hb); clear ho hb hr1 hc1))
      refine ⟨rfl, ?_⟩
      apply AnyC.take (i := 8) rfl (by kernel_rfl) rfl
      · intro w' hC K hK
        go_wp2
        exact hK
      · rfl
      apply AnyC.take (i := 9) rfl (by kernel_rfl) rfl
      · intro w' hC K hK
        go_wp2
        exact hK
      · rfl
      apply AnyC.take (i := 10) rfl (by kernel_rfl) rfl
      · intro w' hC K hK
        go_wp2
        exact hK
      · rfl
      apply AnyC.take (i := 11) rfl (by kernel_rfl) rfl
      · intro w' hC K hK
        go_wp2
        exact hK
      · rfl
      apply AnyC.take (i := 12) rfl (by kernel_rfl) rfl
      · intro w' hC K hK
        go_wp2
        exact hK
      · rfl
      refine AnyC.done R11.out (by kernel_rfl) ?_
      go_wp2
      refine bodyPost_ret (v := .slice A1 (encB (signL r)).length c1) (by simp [results, Try.results32]) rfl ⟨_, rfl, O11.out, B11.out⟩
  · go_wp2_with (go_at_call 31; go_must (refine (rRootBytes_any r Hr.out _).mono ?_; rintro e w12 ⟨xN, rfl, hown, hb⟩; have N_12 := Lib.hid (Itm.own hown); obtain ⟨AN, cN, rfl, hcl, hrd⟩ := own8_form hown; clear hcl hrd; have B12 := Lib.hid (B4.out.trans (hb.mono B4.out.size)); have R12 := Lib.hid (heap_below R4.out hb); clear hown hb))
    refine ⟨rfl, ?_⟩
    apply AnyC.solo (i := 0) rfl (by kernel_rfl) R12.out
    go_wp2
    refine ⟨rfl, ?_⟩
    obtain ⟨w13, hw⟩ : ∃ w13, w13 = w12.alloc (.cells #[.int .u8 115, .int .u8 105, .int .u8 103, .int .u8 110, .int .u8 101, .int .u8 100] 5) := ⟨_, rfl⟩
    rw [← hw]
    obtain ⟨bq, hbq⟩ : ∃ bq, bq = w12.heap.size := ⟨_, rfl⟩
    rw [← hbq]
    have hb : Below w12.heap.size w12 w13 := by rw [hw]; exact (Below.refl _ _).alloc (Nat.le_refl _) _
    have Q_13 : Hid (w13.heap[bq]? = some (.cells #[.int .u8 115, .int .u8 105, .int .u8 103, .int .u8 110, .int .u8 101, .int .u8 100] 5 (0, 0))) := by show _ = _; rw [hw, hbq]; exact heap_alloc_new w12 _
    have BQ : Hid (w.heap.size < bq) := by show _ < _; rw [hbq]; exact lt_of_heap R12.out
    have B13 := Lib.hid (B12.out.trans (hb.mono B12.out.size))
    have R13 := Lib.hid (heap_below R12.out hb)
    have N_13 := Lib.hid (N_12.out.below hb)
    clear hb hw hbq
    apply AnyC.solo (i := 1) rfl (by kernel_rfl) R13.out
    have hcv := run_conv_mark (n := 6) (c := 6) (m := 6) Q_13.out rfl
    have MW := Lib.hid (mark_world (n := 6) Q_13.out)
    go_wp2
    refine ⟨rfl, ?_⟩
    clear hcv
    obtain ⟨w14, hw⟩ : ∃ w14, w14 = w13.freeze ⟨bq, 6, none⟩ 1 := ⟨_, rfl⟩
    rw [← hw]
    rw [← hw] at MW
    have W_14 := Lib.hid ((Itm.row (n := 6) Q_13.out signedW_cells rfl).cells MW.out.1 MW.out.2.1)
    have B14 := Lib.hid (B13.out.trans (MW.out.2.2.2 _ (Nat.le_of_lt BQ.out)))
    have R14 := Lib.hid ((MW.out.2.2.1 _ (Nat.ne_of_lt BQ.out)).trans R13.out)
    have N_14 := Lib.hid (N_13.out.cells MW.out.1 MW.out.2.1)
    clear hw MW
    apply AnyC.solo (i := 6) rfl (by kernel_rfl) R14.out
    go_wp2
    refine ⟨rfl, ?_⟩
    have LS := Lib.hid (Itms.lists (.cons W_14.out (.cons N_14.out (.cons (root_parts Hr.out R14.out).2.2.2 Itms.nil))) 24)
    have BL : Hid (∀ o, Below w.heap.size w (w14.alloc o) ∧ Below w14.heap.size w14 (w14.alloc o)) := fun o => ⟨B14.out.alloc B14.out.size _, (Below.refl _ _).alloc (Nat.le_refl _) _⟩
    apply AnyC.solo (i := 7) rfl (by kernel_rfl) (heap_below R14.out (BL.out _).2)
    go_wp2_with (go_at_call 13; go_must (refine (rEncode_any (some ⟨w14.heap.size, 0, none⟩) 3 (signL r) _ LS.out (by simp [signL])).mono ?_; rintro e w15 ⟨v, rfl, ho, hb⟩; obtain ⟨A1, c1, rfl, hc1, hr1⟩ := own8_form ho; have O15 := Lib.hid (own8_base ho (BL.out _).1.size); have B15 := Lib.hid ((BL.out _).1.trans (hb.mono (BL.out _).1.size)); have R15 := Lib.hid (heap_below (heap_below R14.out (BL.out _).2) hb); clear ho hb hr1 hc1))
    refine ⟨rfl, ?_⟩
    apply AnyC.take (i := 8) rfl (by kernel_rfl) rfl
    · intro w' hC K hK
      go_wp2
      exact hK
    · rfl
    apply AnyC.take (i := 9) rfl (by kernel_rfl) rfl
    · intro w' hC K hK
      go_wp2
      exact hK
    · rfl
    apply AnyC.take (i := 10) rfl (by kernel_rfl) rfl
    · intro w' hC K hK
      go_wp2
      exact hK
    · rfl
    apply AnyC.take (i := 11) rfl (by kernel_rfl) rfl
    · intro w' hC K hK
      go_wp2
      exact hK
    · rfl
    apply AnyC.take (i := 12) rfl (by kernel_rfl) rfl
    · intro w' hC K hK
      go_wp2
      exact hK
    · rfl
    refine AnyC.done R15.out (by kernel_rfl) ?_
    go_wp2
    refine bodyPost_ret (v := .slice A1 (encB (signL r)).length c1) (by simp [results, Try.results32]) rfl ⟨_, rfl, O15.out, B15.out⟩
end Go.Proofs.Ytbpgbihcihnieaa
