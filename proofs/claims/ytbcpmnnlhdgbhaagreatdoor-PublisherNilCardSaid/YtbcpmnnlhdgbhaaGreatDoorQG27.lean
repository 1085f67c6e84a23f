/- The texts Rg3 Bd V3a of this work, merged by wip/merge.py. No conditions. -/
import Derived.Test.YtbcpmnnlhdgbhaaGreatDoorQG23
import Derived.Test.YtbcpmnnlhdgbhaaGreatDoorQG26
import Derived.Test.YtbcpmnnlhdgbhaaGreatDoorQG00
import Derived.Deep.MidRow
namespace Go.Proofs.YtbcpmnnlhdgbhaaGreatDoor
open Go.RowKit
/-- Bytes that lie somewhere. -/
def Tell.bytes (l : List UInt8) : Tell := ⟨fun u => ∃ A c, u = .slice A l.length c ∧ l.length ≤ c, fun _ u w => ∀ A c, u = .slice A l.length c → Reads w w.heap.size 1 A l.length (bvs l), fun _ => none⟩
theorem Tell.bytes_good (l : List UInt8) : (Tell.bytes l).Good := ⟨⟨_, none, _, rfl, Nat.le_refl _⟩, fun _ _ _ _ h hb A c e => ((h A c e).below hb).more hb.size⟩
section
variable {P : Program} {l : List Oper} {w0 : World} {K : List (Nat × (World → Prop)) → List (Option Nat) → Act → Prop} {r : List (Oper × Option Tell)} {k : Nat} {fs : List (Nat × (World → Prop))} {bs : List (Option Nat)} {a : Act} {o : Oper}
theorem rg_call_bytes (f : FuncId) (xs : List Operand) {ts : Array TypeId} (ho : o.op = .call { callee := .value (.func f), args := xs.toArray, argTypes := ts }) {vs : List Value} (hx : xs.map a.eval = vs)
    (eg : ∀ args w, (callFunc f args).run P w = .ok (.enter f args) w) {b : List UInt8} (hc : ∀ w, Below w0.heap.size w0 w → told l k fs w → Calls P f vs.toArray w (BPost b w))
    (hK : ∀ A c, b.length ≤ c → rgWalk P l w0 K r (k + 1) (fs ++ [(k, fun w => Reads w w.heap.size 1 A b.length (bvs b))]) (bs ++ [none]) (a.put o.dst (.slice A b.length c))) : rgWalk P l w0 K ((o, some (Tell.bytes b)) :: r) k fs bs a := by
  refine rg_call_t _ f xs ho hx eg (fun w hb ht => (hc w hb ht).mono fun e w' h => ?_) (fun v hv => ?_)
  · obtain ⟨v, e1, ho, hb'⟩ := h
    obtain ⟨A, c, rfl, hle, hr⟩ := own8_form ho
    exact ⟨_, e1, ⟨A, c, rfl, hle⟩, fun A' c' e2 => (by cases e2; exact hr), hb', fun b hb => by cases hb⟩
  · obtain ⟨A, c, rfl, hle⟩ := hv
    have h1 := hK A c hle
    have e : (fun w : World => Reads w w.heap.size 1 A b.length (bvs b)) = (Tell.bytes b).holds (argsOf l.toArray o a) (.slice A b.length c) := by
      funext w
      apply propext
      refine ⟨fun h A' c' e => ?_, fun h => h A c rfl⟩
      cases e
      exact h
    rw [e] at h1
    exact h1
/-- A struct or an array, built of what is at hand. -/
theorem rg_build {t : TypeId} {parts : List (Nat × Operand)} (ho : o.op = .build t parts.toArray) {ps : List (Nat × Value)} (hx : parts.map (fun p => (p.1, a.eval p.2)) = ps) {cells : Array Value} (hb : P.built t ps = some cells) (hK : rgWalk P l w0 K r (k + 1) fs bs (a.put o.dst (.agg cells))) : rgWalk P l w0 K ((o, none) :: r) k fs bs a := by
  refine rg_v (v := .agg cells) (fun w => ?_) hK
  unfold execOp
  have e : (parts.toArray.map fun x => match x with | (i, x) => (i, a.eval x)) = ps.toArray := by rw [List.map_toArray, ← hx]
  simp only [ho, e, run_build w t ps.toArray cells (by simpa using hb), Sem.run_bind, Sem.run_pure, Result.andThen_ok]
end
end Go.Proofs.YtbcpmnnlhdgbhaaGreatDoor

namespace Go.Proofs.YtbcpmnnlhdgbhaaGreatDoor.Bd
open Go.RowKit
theorem fold_set (xs : List Value) : ∀ (off n : Nat) (cs : Array Value), off + n + xs.length ≤ cs.size →
    (xs.zipIdx n).foldl (fun cs (p : Value × Nat) => cs.setIfInBounds (off + p.2) p.1) cs = (cs.toList.take (off + n) ++ xs ++ cs.toList.drop (off + n + xs.length)).toArray := by
  induction xs with
  | nil => intro off n cs _; simp
  | cons x xs ih =>
    intro off n cs h
    rw [List.zipIdx_cons, List.foldl_cons, ih off (n + 1) _ (by simp at h ⊢; omega)]
    congr 1
    have e := list_seg_step cs.toList (off + n) x xs (by simp at h ⊢; omega)
    simpa [Array.toList_setIfInBounds, Nat.add_assoc] using e
theorem fill_one {place : Nat → Option (Nat × Nat)} {cells : Array Value} {i off : Nat} {v : Value} {rest : List (Nat × Value)} (hp : place i = some (off, v.cells.size)) (hs : off + v.cells.size ≤ cells.size) :
    Instr.fill place cells ((i, v) :: rest) = Instr.fill place (cells.toList.take off ++ v.cells.toList ++ cells.toList.drop (off + v.cells.size)).toArray rest := by
  have h1 := fold_set v.cells.toList off 0 cells (by simpa using hs)
  rw [Instr.fill, hp]
  simp only
  rw [if_neg (by simp; omega)]
  congr 1
  rw [← Array.foldl_toList, Array.toList_zipIdx]
  simpa using h1
theorem fill_seg {place : Nat → Option (Nat × Nat)} {cells : Array Value} {i : Nat} {v : Value} {rest : List (Nat × Value)} (pre old new post : List Value) (hc : cells = (pre ++ (old ++ post)).toArray) (hv : v.cells = new.toArray) (hp : place i = some (pre.length, new.length)) (ho : old.length = new.length) :
    Instr.fill place cells ((i, v) :: rest) = Instr.fill place (pre ++ (new ++ post)).toArray rest := by
  have hn : v.cells.size = new.length := by rw [hv]; simp
  rw [fill_one (off := pre.length) (by rw [hp, hn]) (by rw [hc, hn]; simp; omega), hv, hc]
  congr 1
  have e1 : (pre ++ (old ++ post)).toArray.toList = pre ++ (old ++ post) := by simp
  have e2 : new.toArray.toList = new := by simp
  have e3 : pre.length + new.toArray.size = (pre ++ old).length := by simp [ho]
  rw [e1, e2, e3, List.take_left, ← List.append_assoc pre old post, List.drop_left, List.append_assoc]
end Go.Proofs.YtbcpmnnlhdgbhaaGreatDoor.Bd

namespace Go.Proofs.YtbcpmnnlhdgbhaaGreatDoor
open Go.RowKit
set_option maxRecDepth 100000 in
set_option maxHeartbeats 4000000 in
theorem RootBytes_any (r : RootV) (hr : r.ok) (w : World) : Calls Tryz.prog 117 #[.agg r.cs] w (BPost (rootB r) w) := by
  have F : Hid (Below w.heap.size w (w.alloc (.cells r.cs 34)) ∧ (w.alloc (.cells r.cs 34)).heap[w.heap.size]? = some (.cells r.cs 34 (0, 0))) := ⟨(Below.refl _ _).alloc (Nat.le_refl _) _, heap_alloc_new w _⟩
  have Hr := Lib.hid hr
  obtain ⟨cs, hcs⟩ : ∃ cs, cs = r.cs := ⟨_, rfl⟩
  rw [← hcs] at F ⊢
  have Hcs := Lib.hid hcs
  clear hr hcs
  go_enter Tryz.func117, Tryz.ntmps117
  go_wp2
  refine AnyC.startB (fun w' => w'.heap[w.heap.size]? = some (.cells r.cs 34 (0, 0))) (by kernel_rfl) rfl ?_
  intro w4 hb4 hs4
  clear hs4
  have B4 : Hid (Below w.heap.size w w4) := F.out.1.trans (hb4.mono F.out.1.size)
  have R4 : Hid (w4.heap[w.heap.size]? = some (.cells r.cs 34 (0, 0))) := by have h_ := heap_below F.out.2 hb4; rw [Hcs.out] at h_; exact h_
  clear hb4 F
  apply AnyC.take (i := 2) rfl (by kernel_rfl) rfl
  · intro w' hC K hK
    go_wp2
    exact hK
  · rfl
  apply AnyC.take (i := 3) rfl (by kernel_rfl) rfl
  · intro w' hC K hK
    obtain ⟨c0, c1, c2⟩ := root_at hC
    go_wp2
    exact hK
  · rfl
  apply AnyC.take (i := 5) rfl (by kernel_rfl) rfl
  · intro w' hC K hK
    go_wp2
    exact hK
  · rfl
  apply AnyC.take (i := 6) rfl (by kernel_rfl) rfl
  · intro w' hC K hK
    obtain ⟨c0, c1, c2⟩ := root_at hC
    go_wp2
    exact hK
  · rfl
  apply AnyC.take (i := 8) rfl (by kernel_rfl) rfl
  · intro w' hC K hK
    go_wp2
    exact hK
  · rfl
  apply AnyC.take (i := 9) rfl (by kernel_rfl) rfl
  · intro w' hC K hK
    obtain ⟨c0, c1, c2⟩ := root_at hC
    go_wp2
    exact hK
  · rfl
  apply AnyC.take (i := 11) rfl (by kernel_rfl) rfl
  · intro w' hC K hK
    go_wp2
    exact hK
  · rfl
  apply AnyC.take (i := 12) rfl (by kernel_rfl) rfl
  · intro w' hC K hK
    go_wp2
    exact hK
  · rfl
  apply AnyC.take (i := 13) rfl (by kernel_rfl) rfl
  · intro w' hC K hK
    go_wp2
    exact hK
  · rfl
  apply AnyC.take (i := 14) rfl (by kernel_rfl) rfl
  · intro w' hC K hK
    go_wp2
    exact hK
  · rfl
  apply AnyC.take (i := 15) rfl (by kernel_rfl) rfl
  · intro w' hC K hK
    go_wp2
    exact hK
  · rfl
  apply AnyC.take (i := 16) rfl (by kernel_rfl) rfl
  · intro w' hC K hK
    go_wp2
    exact hK
  · rfl
  apply AnyC.two (i := 0) (j := 4) rfl rfl (by kernel_rfl) R4.out
  · go_wp2
    refine ⟨rfl, ?_⟩
    obtain ⟨w5, hw⟩ : ∃ w5, w5 = w4.alloc (.cells #[.int .u8 114, .int .u8 111, .int .u8 111, .int .u8 116] 5) := ⟨_, rfl⟩
    rw [← hw]
    obtain ⟨bq, hbq⟩ : ∃ bq, bq = w4.heap.size := ⟨_, rfl⟩
    rw [← hbq]
    have hb : Below w4.heap.size w4 w5 := by rw [hw]; exact (Below.refl _ _).alloc (Nat.le_refl _) _
    have Q_5 : Hid (w5.heap[bq]? = some (.cells #[.int .u8 114, .int .u8 111, .int .u8 111, .int .u8 116] 5 (0, 0))) := by show _ = _; rw [hw, hbq]; exact heap_alloc_new w4 _
    have BQ : Hid (w.heap.size < bq) := by show _ < _; rw [hbq]; exact lt_of_heap R4.out
    have B5 := Lib.hid (B4.out.trans (hb.mono B4.out.size))
    have R5 := Lib.hid (heap_below R4.out hb)
    clear hb hw hbq
    apply AnyC.two (i := 1) (j := 4) rfl rfl (by kernel_rfl) R5.out
    · have hcv := run_conv_mark (n := 4) (c := 4) (m := 4) Q_5.out rfl
      have MW := Lib.hid (mark_world (n := 4) Q_5.out)
      go_wp2
      refine ⟨rfl, ?_⟩
      clear hcv
      obtain ⟨w6, hw⟩ : ∃ w6, w6 = w5.freeze ⟨bq, 4, none⟩ 1 := ⟨_, rfl⟩
      rw [← hw]
      rw [← hw] at MW
      have W_6 := Lib.hid ((Itm.row (n := 4) Q_5.out rootW_cells rfl).cells MW.out.1 MW.out.2.1)
      have B6 := Lib.hid (B5.out.trans (MW.out.2.2.2 _ (Nat.le_of_lt BQ.out)))
      have R6 := Lib.hid ((MW.out.2.2.1 _ (Nat.ne_of_lt BQ.out)).trans R5.out)
      clear hw MW
      apply AnyC.solo (i := 4) rfl (by kernel_rfl) R6.out
      go_wp2_with (go_at_call 29; go_must (refine (Num_any r.e Hr.out.e _).mono ?_; rintro e w7 ⟨xN, rfl, hown, hb⟩; have N_7 := Lib.hid (Itm.own hown); obtain ⟨AN, cN, rfl, hcl, hrd⟩ := own8_form hown; clear hcl hrd; have B7 := Lib.hid (B6.out.trans (hb.mono B6.out.size)); have R7 := Lib.hid (heap_below R6.out hb); have W_7 := Lib.hid (W_6.out.below hb); clear hown hb))
      refine ⟨rfl, ?_⟩
      apply AnyC.solo (i := 7) rfl (by kernel_rfl) R7.out
      go_wp2_with (go_at_call 29; go_must (refine (Num_any r.k Hr.out.k _).mono ?_; rintro e w8 ⟨xM, rfl, hown, hb⟩; have M_8 := Lib.hid (Itm.own hown); obtain ⟨AM, cM, rfl, hcl, hrd⟩ := own8_form hown; clear hcl hrd; have B8 := Lib.hid (B7.out.trans (hb.mono B7.out.size)); have R8 := Lib.hid (heap_below R7.out hb); have W_8 := Lib.hid (W_7.out.below hb); have N_8 := Lib.hid (N_7.out.below hb); clear hown hb))
      refine ⟨rfl, ?_⟩
      apply AnyC.solo (i := 10) rfl (by kernel_rfl) R8.out
      go_wp2_with (go_at_call 29; go_must (refine (Num_any r.g Hr.out.g _).mono ?_; rintro e w9 ⟨xO, rfl, hown, hb⟩; have O_9 := Lib.hid (Itm.own hown); obtain ⟨AO, cO, rfl, hcl, hrd⟩ := own8_form hown; clear hcl hrd; have B9 := Lib.hid (B8.out.trans (hb.mono B8.out.size)); have R9 := Lib.hid (heap_below R8.out hb); have W_9 := Lib.hid (W_8.out.below hb); have N_9 := Lib.hid (N_8.out.below hb); have M_9 := Lib.hid (M_8.out.below hb); clear hown hb))
      refine ⟨rfl, ?_⟩
      apply AnyC.solo (i := 17) rfl (by kernel_rfl) R9.out
      go_wp2
      refine ⟨rfl, ?_⟩
      have LS := Lib.hid (Itms.lists (.cons W_9.out (.cons N_9.out (.cons M_9.out (.cons O_9.out (.cons (root_parts Hr.out R9.out).1 (.cons (root_parts Hr.out R9.out).2.1 (.cons (root_parts Hr.out R9.out).2.2.1 Itms.nil))))))) 96)
      have BL : Hid (∀ o, Below w.heap.size w (w9.alloc o) ∧ Below w9.heap.size w9 (w9.alloc o)) := fun o => ⟨B9.out.alloc B9.out.size _, (Below.refl _ _).alloc (Nat.le_refl _) _⟩
      apply AnyC.solo (i := 18) rfl (by kernel_rfl) (heap_below R9.out (BL.out _).2)
      go_wp2_with (go_at_call 148; go_must (refine (must_any (some ⟨w9.heap.size, 0, none⟩) 7 7 (rootL r) _ LS.out rfl (by decide)).mono ?_; rintro e w10 ⟨v, rfl, ho, hb⟩; obtain ⟨A1, c1, rfl, hc1, hr1⟩ := own8_form ho; have O10 := Lib.hid (own8_base ho (BL.out _).1.size); have B10 := Lib.hid ((BL.out _).1.trans (hb.mono (BL.out _).1.size)); have R10 := Lib.hid (heap_below (heap_below R9.out (BL.out _).2) hb); clear ho hb hr1 hc1))
      refine ⟨rfl, ?_⟩
      apply AnyC.take (i := 19) rfl (by kernel_rfl) rfl
      · intro w' hC K hK
        go_wp2
        exact hK
      · rfl
      refine AnyC.done R10.out (by kernel_rfl) ?_
      go_wp2
      refine bodyPost_ret (v := .slice A1 (encB (rootL r)).length c1) (by simp [results, Tryz.results117]) rfl ⟨_, rfl, O10.out, B10.out⟩
    · go_wp2_with (go_at_call 29; go_must (refine (Num_any r.e Hr.out.e _).mono ?_; rintro e w11 ⟨xN, rfl, hown, hb⟩; have N_11 := Lib.hid (Itm.own hown); obtain ⟨AN, cN, rfl, hcl, hrd⟩ := own8_form hown; clear hcl hrd; have B11 := Lib.hid (B5.out.trans (hb.mono B5.out.size)); have R11 := Lib.hid (heap_below R5.out hb); have Q_11 := Lib.hid (heap_below Q_5.out hb); clear hown hb))
      refine ⟨rfl, ?_⟩
      apply AnyC.two (i := 1) (j := 7) rfl rfl (by kernel_rfl) R11.out
      · have hcv := run_conv_mark (n := 4) (c := 4) (m := 4) Q_11.out rfl
        have MW := Lib.hid (mark_world (n := 4) Q_11.out)
        go_wp2
        refine ⟨rfl, ?_⟩
        clear hcv
        obtain ⟨w12, hw⟩ : ∃ w12, w12 = w11.freeze ⟨bq, 4, none⟩ 1 := ⟨_, rfl⟩
        rw [← hw]
        rw [← hw] at MW
        have W_12 := Lib.hid ((Itm.row (n := 4) Q_11.out rootW_cells rfl).cells MW.out.1 MW.out.2.1)
        have B12 := Lib.hid (B11.out.trans (MW.out.2.2.2 _ (Nat.le_of_lt BQ.out)))
        have R12 := Lib.hid ((MW.out.2.2.1 _ (Nat.ne_of_lt BQ.out)).trans R11.out)
        have N_12 := Lib.hid (N_11.out.cells MW.out.1 MW.out.2.1)
        clear hw MW
        apply AnyC.solo (i := 7) rfl (by kernel_rfl) R12.out
        go_wp2_with (go_at_call 29; go_must (refine (Num_any r.k Hr.out.k _).mono ?_; rintro e w13 ⟨xM, rfl, hown, hb⟩; have M_13 := Lib.hid (Itm.own hown); obtain ⟨AM, cM, rfl, hcl, hrd⟩ := own8_form hown; clear hcl hrd; have B13 := Lib.hid (B12.out.trans (hb.mono B12.out.size)); have R13 := Lib.hid (heap_below R12.out hb); have N_13 := Lib.hid (N_12.out.below hb); have W_13 := Lib.hid (W_12.out.below hb); clear hown hb))
        refine ⟨rfl, ?_⟩
        apply AnyC.solo (i := 10) rfl (by kernel_rfl) R13.out
        go_wp2_with (go_at_call 29; go_must (refine (Num_any r.g Hr.out.g _).mono ?_; rintro e w14 ⟨xO, rfl, hown, hb⟩; have O_14 := Lib.hid (Itm.own hown); obtain ⟨AO, cO, rfl, hcl, hrd⟩ := own8_form hown; clear hcl hrd; have B14 := Lib.hid (B13.out.trans (hb.mono B13.out.size)); have R14 := Lib.hid (heap_below R13.out hb); have N_14 := Lib.hid (N_13.out.below hb); have W_14 := Lib.hid (W_13.out.below hb); have M_14 := Lib.hid (M_13.out.below hb); clear hown hb))
        refine ⟨rfl, ?_⟩
        apply AnyC.solo (i := 17) rfl (by kernel_rfl) R14.out
        go_wp2
        refine ⟨rfl, ?_⟩
        have LS := Lib.hid (Itms.lists (.cons W_14.out (.cons N_14.out (.cons M_14.out (.cons O_14.out (.cons (root_parts Hr.out R14.out).1 (.cons (root_parts Hr.out R14.out).2.1 (.cons (root_parts Hr.out R14.out).2.2.1 Itms.nil))))))) 96)
        have BL : Hid (∀ o, Below w.heap.size w (w14.alloc o) ∧ Below w14.heap.size w14 (w14.alloc o)) := fun o => ⟨B14.out.alloc B14.out.size _, (Below.refl _ _).alloc (Nat.le_refl _) _⟩
        apply AnyC.solo (i := 18) rfl (by kernel_rfl) (heap_below R14.out (BL.out _).2)
        go_wp2_with (go_at_call 148; go_must (refine (must_any (some ⟨w14.heap.size, 0, none⟩) 7 7 (rootL r) _ LS.out rfl (by decide)).mono ?_; rintro e w15 ⟨v, rfl, ho, hb⟩; obtain ⟨A1, c1, rfl, hc1, hr1⟩ := own8_form ho; have O15 := Lib.hid (own8_base ho (BL.out _).1.size); have B15 := Lib.hid ((BL.out _).1.trans (hb.mono (BL.out _).1.size)); have R15 := Lib.hid (heap_below (heap_below R14.out (BL.out _).2) hb); clear ho hb hr1 hc1))
        refine ⟨rfl, ?_⟩
        apply AnyC.take (i := 19) rfl (by kernel_rfl) rfl
        · intro w' hC K hK
          go_wp2
          exact hK
        · rfl
        refine AnyC.done R15.out (by kernel_rfl) ?_
        go_wp2
        refine bodyPost_ret (v := .slice A1 (encB (rootL r)).length c1) (by simp [results, Tryz.results117]) rfl ⟨_, rfl, O15.out, B15.out⟩
      · go_wp2_with (go_at_call 29; go_must (refine (Num_any r.k Hr.out.k _).mono ?_; rintro e w16 ⟨xM, rfl, hown, hb⟩; have M_16 := Lib.hid (Itm.own hown); obtain ⟨AM, cM, rfl, hcl, hrd⟩ := own8_form hown; clear hcl hrd; have B16 := Lib.hid (B11.out.trans (hb.mono B11.out.size)); have R16 := Lib.hid (heap_below R11.out hb); have N_16 := Lib.hid (N_11.out.below hb); have Q_16 := Lib.hid (heap_below Q_11.out hb); clear hown hb))
        refine ⟨rfl, ?_⟩
        apply AnyC.two (i := 1) (j := 10) rfl rfl (by kernel_rfl) R16.out
        · have hcv := run_conv_mark (n := 4) (c := 4) (m := 4) Q_16.out rfl
          have MW := Lib.hid (mark_world (n := 4) Q_16.out)
          go_wp2
          refine ⟨rfl, ?_⟩
          clear hcv
          obtain ⟨w17, hw⟩ : ∃ w17, w17 = w16.freeze ⟨bq, 4, none⟩ 1 := ⟨_, rfl⟩
          rw [← hw]
          rw [← hw] at MW
          have W_17 := Lib.hid ((Itm.row (n := 4) Q_16.out rootW_cells rfl).cells MW.out.1 MW.out.2.1)
          have B17 := Lib.hid (B16.out.trans (MW.out.2.2.2 _ (Nat.le_of_lt BQ.out)))
          have R17 := Lib.hid ((MW.out.2.2.1 _ (Nat.ne_of_lt BQ.out)).trans R16.out)
          have N_17 := Lib.hid (N_16.out.cells MW.out.1 MW.out.2.1)
          have M_17 := Lib.hid (M_16.out.cells MW.out.1 MW.out.2.1)
          clear hw MW
          apply AnyC.solo (i := 10) rfl (by kernel_rfl) R17.out
          go_wp2_with (go_at_call 29; go_must (refine (Num_any r.g Hr.out.g _).mono ?_; rintro e w18 ⟨xO, rfl, hown, hb⟩; have O_18 := Lib.hid (Itm.own hown); obtain ⟨AO, cO, rfl, hcl, hrd⟩ := own8_form hown; clear hcl hrd; have B18 := Lib.hid (B17.out.trans (hb.mono B17.out.size)); have R18 := Lib.hid (heap_below R17.out hb); have N_18 := Lib.hid (N_17.out.below hb); have M_18 := Lib.hid (M_17.out.below hb); have W_18 := Lib.hid (W_17.out.below hb); clear hown hb))
          refine ⟨rfl, ?_⟩
          apply AnyC.solo (i := 17) rfl (by kernel_rfl) R18.out
          go_wp2
          refine ⟨rfl, ?_⟩
          have LS := Lib.hid (Itms.lists (.cons W_18.out (.cons N_18.out (.cons M_18.out (.cons O_18.out (.cons (root_parts Hr.out R18.out).1 (.cons (root_parts Hr.out R18.out).2.1 (.cons (root_parts Hr.out R18.out).2.2.1 Itms.nil))))))) 96)
          have BL : Hid (∀ o, Below w.heap.size w (w18.alloc o) ∧ Below w18.heap.size w18 (w18.alloc o)) := fun o => ⟨B18.out.alloc B18.out.size _, (Below.refl _ _).alloc (Nat.le_refl _) _⟩
          apply AnyC.solo (i := 18) rfl (by kernel_rfl) (heap_below R18.out (BL.out _).2)
          go_wp2_with (go_at_call 148; go_must (refine (must_any (some ⟨w18.heap.size, 0, none⟩) 7 7 (rootL r) _ LS.out rfl (by decide)).mono ?_; rintro e w19 ⟨v, rfl, ho, hb⟩; obtain ⟨A1, c1, rfl, hc1, hr1⟩ := own8_form ho; have O19 := Lib.hid (own8_base ho (BL.out _).1.size); have B19 := Lib.hid ((BL.out _).1.trans (hb.mono (BL.out _).1.size)); have R19 := Lib.hid (heap_below (heap_below R18.out (BL.out _).2) hb); clear ho hb hr1 hc1))
          refine ⟨rfl, ?_⟩
          apply AnyC.take (i := 19) rfl (by kernel_rfl) rfl
          · intro w' hC K hK
            go_wp2
            exact hK
          · rfl
          refine AnyC.done R19.out (by kernel_rfl) ?_
          go_wp2
          refine bodyPost_ret (v := .slice A1 (encB (rootL r)).length c1) (by simp [results, Tryz.results117]) rfl ⟨_, rfl, O19.out, B19.out⟩
        · go_wp2_with (go_at_call 29; go_must (refine (Num_any r.g Hr.out.g _).mono ?_; rintro e w20 ⟨xO, rfl, hown, hb⟩; have O_20 := Lib.hid (Itm.own hown); obtain ⟨AO, cO, rfl, hcl, hrd⟩ := own8_form hown; clear hcl hrd; have B20 := Lib.hid (B16.out.trans (hb.mono B16.out.size)); have R20 := Lib.hid (heap_below R16.out hb); have N_20 := Lib.hid (N_16.out.below hb); have M_20 := Lib.hid (M_16.out.below hb); have Q_20 := Lib.hid (heap_below Q_16.out hb); clear hown hb))
          refine ⟨rfl, ?_⟩
          apply AnyC.solo (i := 1) rfl (by kernel_rfl) R20.out
          have hcv := run_conv_mark (n := 4) (c := 4) (m := 4) Q_20.out rfl
          have MW := Lib.hid (mark_world (n := 4) Q_20.out)
          go_wp2
          refine ⟨rfl, ?_⟩
          clear hcv
          obtain ⟨w21, hw⟩ : ∃ w21, w21 = w20.freeze ⟨bq, 4, none⟩ 1 := ⟨_, rfl⟩
          rw [← hw]
          rw [← hw] at MW
          have W_21 := Lib.hid ((Itm.row (n := 4) Q_20.out rootW_cells rfl).cells MW.out.1 MW.out.2.1)
          have B21 := Lib.hid (B20.out.trans (MW.out.2.2.2 _ (Nat.le_of_lt BQ.out)))
          have R21 := Lib.hid ((MW.out.2.2.1 _ (Nat.ne_of_lt BQ.out)).trans R20.out)
          have N_21 := Lib.hid (N_20.out.cells MW.out.1 MW.out.2.1)
          have M_21 := Lib.hid (M_20.out.cells MW.out.1 MW.out.2.1)
          have O_21 := Lib.hid (O_20.out.cells MW.out.1 MW.out.2.1)
          clear hw MW
          apply AnyC.solo (i := 17) rfl (by kernel_rfl) R21.out
          go_wp2
          refine ⟨rfl, ?_⟩
          have LS := Lib.hid (Itms.lists (.cons W_21.out (.cons N_21.out (.cons M_21.out (.cons O_21.out (.cons (root_parts Hr.out R21.out).1 (.cons (root_parts Hr.out R21.out).2.1 (.cons (root_parts Hr.out R21.out).2.2.1 Itms.nil))))))) 96)
          have BL : Hid (∀ o, Below w.heap.size w (w21.alloc o) ∧ Below w21.heap.size w21 (w21.alloc o)) := fun o => ⟨B21.out.alloc B21.out.size _, (Below.refl _ _).alloc (Nat.le_refl _) _⟩
          apply AnyC.solo (i := 18) rfl (by kernel_rfl) (heap_below R21.out (BL.out _).2)
          go_wp2_with (go_at_call 148; go_must (refine (must_any (some ⟨w21.heap.size, 0, none⟩) 7 7 (rootL r) _ LS.out rfl (by decide)).mono ?_; rintro e w22 ⟨v, rfl, ho, hb⟩; obtain ⟨A1, c1, rfl, hc1, hr1⟩ := own8_form ho; have O22 := Lib.hid (own8_base ho (BL.out _).1.size); have B22 := Lib.hid ((BL.out _).1.trans (hb.mono (BL.out _).1.size)); have R22 := Lib.hid (heap_below (heap_below R21.out (BL.out _).2) hb); clear ho hb hr1 hc1))
          refine ⟨rfl, ?_⟩
          apply AnyC.take (i := 19) rfl (by kernel_rfl) rfl
          · intro w' hC K hK
            go_wp2
            exact hK
          · rfl
          refine AnyC.done R22.out (by kernel_rfl) ?_
          go_wp2
          refine bodyPost_ret (v := .slice A1 (encB (rootL r)).length c1) (by simp [results, Tryz.results117]) rfl ⟨_, rfl, O22.out, B22.out⟩
  · go_wp2_with (go_at_call 29; go_must (refine (Num_any r.e Hr.out.e _).mono ?_; rintro e w23 ⟨xN, rfl, hown, hb⟩; have N_23 := Lib.hid (Itm.own hown); obtain ⟨AN, cN, rfl, hcl, hrd⟩ := own8_form hown; clear hcl hrd; have B23 := Lib.hid (B4.out.trans (hb.mono B4.out.size)); have R23 := Lib.hid (heap_below R4.out hb); clear hown hb))
    refine ⟨rfl, ?_⟩
    apply AnyC.two (i := 0) (j := 7) rfl rfl (by kernel_rfl) R23.out
    · go_wp2
      refine ⟨rfl, ?_⟩
      obtain ⟨w24, hw⟩ : ∃ w24, w24 = w23.alloc (.cells #[.int .u8 114, .int .u8 111, .int .u8 111, .int .u8 116] 5) := ⟨_, rfl⟩
      rw [← hw]
      obtain ⟨bq, hbq⟩ : ∃ bq, bq = w23.heap.size := ⟨_, rfl⟩
      rw [← hbq]
      have hb : Below w23.heap.size w23 w24 := by rw [hw]; exact (Below.refl _ _).alloc (Nat.le_refl _) _
      have Q_24 : Hid (w24.heap[bq]? = some (.cells #[.int .u8 114, .int .u8 111, .int .u8 111, .int .u8 116] 5 (0, 0))) := by show _ = _; rw [hw, hbq]; exact heap_alloc_new w23 _
      have BQ : Hid (w.heap.size < bq) := by show _ < _; rw [hbq]; exact lt_of_heap R23.out
      have B24 := Lib.hid (B23.out.trans (hb.mono B23.out.size))
      have R24 := Lib.hid (heap_below R23.out hb)
      have N_24 := Lib.hid (N_23.out.below hb)
      clear hb hw hbq
      apply AnyC.two (i := 1) (j := 7) rfl rfl (by kernel_rfl) R24.out
      · have hcv := run_conv_mark (n := 4) (c := 4) (m := 4) Q_24.out rfl
        have MW := Lib.hid (mark_world (n := 4) Q_24.out)
        go_wp2
        refine ⟨rfl, ?_⟩
        clear hcv
        obtain ⟨w25, hw⟩ : ∃ w25, w25 = w24.freeze ⟨bq, 4, none⟩ 1 := ⟨_, rfl⟩
        rw [← hw]
        rw [← hw] at MW
        have W_25 := Lib.hid ((Itm.row (n := 4) Q_24.out rootW_cells rfl).cells MW.out.1 MW.out.2.1)
        have B25 := Lib.hid (B24.out.trans (MW.out.2.2.2 _ (Nat.le_of_lt BQ.out)))
        have R25 := Lib.hid ((MW.out.2.2.1 _ (Nat.ne_of_lt BQ.out)).trans R24.out)
        have N_25 := Lib.hid (N_24.out.cells MW.out.1 MW.out.2.1)
        clear hw MW
        apply AnyC.solo (i := 7) rfl (by kernel_rfl) R25.out
        go_wp2_with (go_at_call 29; go_must (refine (Num_any r.k Hr.out.k _).mono ?_; rintro e w26 ⟨xM, rfl, hown, hb⟩; have M_26 := Lib.hid (Itm.own hown); obtain ⟨AM, cM, rfl, hcl, hrd⟩ := own8_form hown; clear hcl hrd; have B26 := Lib.hid (B25.out.trans (hb.mono B25.out.size)); have R26 := Lib.hid (heap_below R25.out hb); have N_26 := Lib.hid (N_25.out.below hb); have W_26 := Lib.hid (W_25.out.below hb); clear hown hb))
        refine ⟨rfl, ?_⟩
        apply AnyC.solo (i := 10) rfl (by kernel_rfl) R26.out
        go_wp2_with (go_at_call 29; go_must (refine (Num_any r.g Hr.out.g _).mono ?_; rintro e w27 ⟨xO, rfl, hown, hb⟩; have O_27 := Lib.hid (Itm.own hown); obtain ⟨AO, cO, rfl, hcl, hrd⟩ := own8_form hown; clear hcl hrd; have B27 := Lib.hid (B26.out.trans (hb.mono B26.out.size)); have R27 := Lib.hid (heap_below R26.out hb); have N_27 := Lib.hid (N_26.out.below hb); have W_27 := Lib.hid (W_26.out.below hb); have M_27 := Lib.hid (M_26.out.below hb); clear hown hb))
        refine ⟨rfl, ?_⟩
        apply AnyC.solo (i := 17) rfl (by kernel_rfl) R27.out
        go_wp2
        refine ⟨rfl, ?_⟩
        have LS := Lib.hid (Itms.lists (.cons W_27.out (.cons N_27.out (.cons M_27.out (.cons O_27.out (.cons (root_parts Hr.out R27.out).1 (.cons (root_parts Hr.out R27.out).2.1 (.cons (root_parts Hr.out R27.out).2.2.1 Itms.nil))))))) 96)
        have BL : Hid (∀ o, Below w.heap.size w (w27.alloc o) ∧ Below w27.heap.size w27 (w27.alloc o)) := fun o => ⟨B27.out.alloc B27.out.size _, (Below.refl _ _).alloc (Nat.le_refl _) _⟩
        apply AnyC.solo (i := 18) rfl (by kernel_rfl) (heap_below R27.out (BL.out _).2)
        go_wp2_with (go_at_call 148; go_must (refine (must_any (some ⟨w27.heap.size, 0, none⟩) 7 7 (rootL r) _ LS.out rfl (by decide)).mono ?_; rintro e w28 ⟨v, rfl, ho, hb⟩; obtain ⟨A1, c1, rfl, hc1, hr1⟩ := own8_form ho; have O28 := Lib.hid (own8_base ho (BL.out _).1.size); have B28 := Lib.hid ((BL.out _).1.trans (hb.mono (BL.out _).1.size)); have R28 := Lib.hid (heap_below (heap_below R27.out (BL.out _).2) hb); clear ho hb hr1 hc1))
        refine ⟨rfl, ?_⟩
        apply AnyC.take (i := 19) rfl (by kernel_rfl) rfl
        · intro w' hC K hK
          go_wp2
          exact hK
        · rfl
        refine AnyC.done R28.out (by kernel_rfl) ?_
        go_wp2
        refine bodyPost_ret (v := .slice A1 (encB (rootL r)).length c1) (by simp [results, Tryz.results117]) rfl ⟨_, rfl, O28.out, B28.out⟩
      · go_wp2_with (go_at_call 29; go_must (refine (Num_any r.k Hr.out.k _).mono ?_; rintro e w29 ⟨xM, rfl, hown, hb⟩; have M_29 := Lib.hid (Itm.own hown); obtain ⟨AM, cM, rfl, hcl, hrd⟩ := own8_form hown; clear hcl hrd; have B29 := Lib.hid (B24.out.trans (hb.mono B24.out.size)); have R29 := Lib.hid (heap_below R24.out hb); have N_29 := Lib.hid (N_24.out.below hb); have Q_29 := Lib.hid (heap_below Q_24.out hb); clear hown hb))
        refine ⟨rfl, ?_⟩
        apply AnyC.two (i := 1) (j := 10) rfl rfl (by kernel_rfl) R29.out
        · have hcv := run_conv_mark (n := 4) (c := 4) (m := 4) Q_29.out rfl
          have MW := Lib.hid (mark_world (n := 4) Q_29.out)
          go_wp2
          refine ⟨rfl, ?_⟩
          clear hcv
          obtain ⟨w30, hw⟩ : ∃ w30, w30 = w29.freeze ⟨bq, 4, none⟩ 1 := ⟨_, rfl⟩
          rw [← hw]
          rw [← hw] at MW
          have W_30 := Lib.hid ((Itm.row (n := 4) Q_29.out rootW_cells rfl).cells MW.out.1 MW.out.2.1)
          have B30 := Lib.hid (B29.out.trans (MW.out.2.2.2 _ (Nat.le_of_lt BQ.out)))
          have R30 := Lib.hid ((MW.out.2.2.1 _ (Nat.ne_of_lt BQ.out)).trans R29.out)
          have N_30 := Lib.hid (N_29.out.cells MW.out.1 MW.out.2.1)
          have M_30 := Lib.hid (M_29.out.cells MW.out.1 MW.out.2.1)
          clear hw MW
          apply AnyC.solo (i := 10) rfl (by kernel_rfl) R30.out
          go_wp2_with (go_at_call 29; go_must (refine (Num_any r.g Hr.out.g _).mono ?_; rintro e w31 ⟨xO, rfl, hown, hb⟩; have O_31 := Lib.hid (Itm.own hown); obtain ⟨AO, cO, rfl, hcl, hrd⟩ := own8_form hown; clear hcl hrd; have B31 := Lib.hid (B30.out.trans (hb.mono B30.out.size)); have R31 := Lib.hid (heap_below R30.out hb); have N_31 := Lib.hid (N_30.out.below hb); have M_31 := Lib.hid (M_30.out.below hb); have W_31 := Lib.hid (W_30.out.below hb); clear hown hb))
          refine ⟨rfl, ?_⟩
          apply AnyC.solo (i := 17) rfl (by kernel_rfl) R31.out
          go_wp2
          refine ⟨rfl, ?_⟩
          have LS := Lib.hid (Itms.lists (.cons W_31.out (.cons N_31.out (.cons M_31.out (.cons O_31.out (.cons (root_parts Hr.out R31.out).1 (.cons (root_parts Hr.out R31.out).2.1 (.cons (root_parts Hr.out R31.out).2.2.1 Itms.nil))))))) 96)
          have BL : Hid (∀ o, Below w.heap.size w (w31.alloc o) ∧ Below w31.heap.size w31 (w31.alloc o)) := fun o => ⟨B31.out.alloc B31.out.size _, (Below.refl _ _).alloc (Nat.le_refl _) _⟩
          apply AnyC.solo (i := 18) rfl (by kernel_rfl) (heap_below R31.out (BL.out _).2)
          go_wp2_with (go_at_call 148; go_must (refine (must_any (some ⟨w31.heap.size, 0, none⟩) 7 7 (rootL r) _ LS.out rfl (by decide)).mono ?_; rintro e w32 ⟨v, rfl, ho, hb⟩; obtain ⟨A1, c1, rfl, hc1, hr1⟩ := own8_form ho; have O32 := Lib.hid (own8_base ho (BL.out _).1.size); have B32 := Lib.hid ((BL.out _).1.trans (hb.mono (BL.out _).1.size)); have R32 := Lib.hid (heap_below (heap_below R31.out (BL.out _).2) hb); clear ho hb hr1 hc1))
          refine ⟨rfl, ?_⟩
          apply AnyC.take (i := 19) rfl (by kernel_rfl) rfl
          · intro w' hC K hK
            go_wp2
            exact hK
          · rfl
          refine AnyC.done R32.out (by kernel_rfl) ?_
          go_wp2
          refine bodyPost_ret (v := .slice A1 (encB (rootL r)).length c1) (by simp [results, Tryz.results117]) rfl ⟨_, rfl, O32.out, B32.out⟩
        · go_wp2_with (go_at_call 29; go_must (refine (Num_any r.g Hr.out.g _).mono ?_; rintro e w33 ⟨xO, rfl, hown, hb⟩; have O_33 := Lib.hid (Itm.own hown); obtain ⟨AO, cO, rfl, hcl, hrd⟩ := own8_form hown; clear hcl hrd; have B33 := Lib.hid (B29.out.trans (hb.mono B29.out.size)); have R33 := Lib.hid (heap_below R29.out hb); have N_33 := Lib.hid (N_29.out.below hb); have M_33 := Lib.hid (M_29.out.below hb); have Q_33 := Lib.hid (heap_below Q_29.out hb); clear hown hb))
          refine ⟨rfl, ?_⟩
          apply AnyC.solo (i := 1) rfl (by kernel_rfl) R33.out
          have hcv := run_conv_mark (n := 4) (c := 4) (m := 4) Q_33.out rfl
          have MW := Lib.hid (mark_world (n := 4) Q_33.out)
          go_wp2
          refine ⟨rfl, ?_⟩
          clear hcv
          obtain ⟨w34, hw⟩ : ∃ w34, w34 = w33.freeze ⟨bq, 4, none⟩ 1 := ⟨_, rfl⟩
          rw [← hw]
          rw [← hw] at MW
          have W_34 := Lib.hid ((Itm.row (n := 4) Q_33.out rootW_cells rfl).cells MW.out.1 MW.out.2.1)
          have B34 := Lib.hid (B33.out.trans (MW.out.2.2.2 _ (Nat.le_of_lt BQ.out)))
          have R34 := Lib.hid ((MW.out.2.2.1 _ (Nat.ne_of_lt BQ.out)).trans R33.out)
          have N_34 := Lib.hid (N_33.out.cells MW.out.1 MW.out.2.1)
          have M_34 := Lib.hid (M_33.out.cells MW.out.1 MW.out.2.1)
          have O_34 := Lib.hid (O_33.out.cells MW.out.1 MW.out.2.1)
          clear hw MW
          apply AnyC.solo (i := 17) rfl (by kernel_rfl) R34.out
          go_wp2
          refine ⟨rfl, ?_⟩
          have LS := Lib.hid (Itms.lists (.cons W_34.out (.cons N_34.out (.cons M_34.out (.cons O_34.out (.cons (root_parts Hr.out R34.out).1 (.cons (root_parts Hr.out R34.out).2.1 (.cons (root_parts Hr.out R34.out).2.2.1 Itms.nil))))))) 96)
          have BL : Hid (∀ o, Below w.heap.size w (w34.alloc o) ∧ Below w34.heap.size w34 (w34.alloc o)) := fun o => ⟨B34.out.alloc B34.out.size _, (Below.refl _ _).alloc (Nat.le_refl _) _⟩
          apply AnyC.solo (i := 18) rfl (by kernel_rfl) (heap_below R34.out (BL.out _).2)
          go_wp2_with (go_at_call 148; go_must (refine (must_any (some ⟨w34.heap.size, 0, none⟩) 7 7 (rootL r) _ LS.out rfl (by decide)).mono ?_; rintro e w35 ⟨v, rfl, ho, hb⟩; obtain ⟨A1, c1, rfl, hc1, hr1⟩ := own8_form ho; have O35 := Lib.hid (own8_base ho (BL.out _).1.size); have B35 := Lib.hid ((BL.out _).1.trans (hb.mono (BL.out _).1.size)); have R35 := Lib.hid (heap_below (heap_below R34.out (BL.out _).2) hb); clear ho hb hr1 hc1))
          refine ⟨rfl, ?_⟩
          apply AnyC.take (i := 19) rfl (by kernel_rfl) rfl
          · intro w' hC K hK
            go_wp2
            exact hK
          · rfl
          refine AnyC.done R35.out (by kernel_rfl) ?_
          go_wp2
          refine bodyPost_ret (v := .slice A1 (encB (rootL r)).length c1) (by simp [results, Tryz.results117]) rfl ⟨_, rfl, O35.out, B35.out⟩
    · go_wp2_with (go_at_call 29; go_must (refine (Num_any r.k Hr.out.k _).mono ?_; rintro e w36 ⟨xM, rfl, hown, hb⟩; have M_36 := Lib.hid (Itm.own hown); obtain ⟨AM, cM, rfl, hcl, hrd⟩ := own8_form hown; clear hcl hrd; have B36 := Lib.hid (B23.out.trans (hb.mono B23.out.size)); have R36 := Lib.hid (heap_below R23.out hb); have N_36 := Lib.hid (N_23.out.below hb); clear hown hb))
      refine ⟨rfl, ?_⟩
      apply AnyC.two (i := 0) (j := 10) rfl rfl (by kernel_rfl) R36.out
      · go_wp2
        refine ⟨rfl, ?_⟩
        obtain ⟨w37, hw⟩ : ∃ w37, w37 = w36.alloc (.cells #[.int .u8 114, .int .u8 111, .int .u8 111, .int .u8 116] 5) := ⟨_, rfl⟩
        rw [← hw]
        obtain ⟨bq, hbq⟩ : ∃ bq, bq = w36.heap.size := ⟨_, rfl⟩
        rw [← hbq]
        have hb : Below w36.heap.size w36 w37 := by rw [hw]; exact (Below.refl _ _).alloc (Nat.le_refl _) _
        have Q_37 : Hid (w37.heap[bq]? = some (.cells #[.int .u8 114, .int .u8 111, .int .u8 111, .int .u8 116] 5 (0, 0))) := by show _ = _; rw [hw, hbq]; exact heap_alloc_new w36 _
        have BQ : Hid (w.heap.size < bq) := by show _ < _; rw [hbq]; exact lt_of_heap R36.out
        have B37 := Lib.hid (B36.out.trans (hb.mono B36.out.size))
        have R37 := Lib.hid (heap_below R36.out hb)
        have N_37 := Lib.hid (N_36.out.below hb)
        have M_37 := Lib.hid (M_36.out.below hb)
        clear hb hw hbq
        apply AnyC.two (i := 1) (j := 10) rfl rfl (by kernel_rfl) R37.out
        · have hcv := run_conv_mark (n := 4) (c := 4) (m := 4) Q_37.out rfl
          have MW := Lib.hid (mark_world (n := 4) Q_37.out)
          go_wp2
          refine ⟨rfl, ?_⟩
          clear hcv
          obtain ⟨w38, hw⟩ : ∃ w38, w38 = w37.freeze ⟨bq, 4, none⟩ 1 := ⟨_, rfl⟩
          rw [← hw]
          rw [← hw] at MW
          have W_38 := Lib.hid ((Itm.row (n := 4) Q_37.out rootW_cells rfl).cells MW.out.1 MW.out.2.1)
          have B38 := Lib.hid (B37.out.trans (MW.out.2.2.2 _ (Nat.le_of_lt BQ.out)))
          have R38 := Lib.hid ((MW.out.2.2.1 _ (Nat.ne_of_lt BQ.out)).trans R37.out)
          have N_38 := Lib.hid (N_37.out.cells MW.out.1 MW.out.2.1)
          have M_38 := Lib.hid (M_37.out.cells MW.out.1 MW.out.2.1)
          clear hw MW
          apply AnyC.solo (i := 10) rfl (by kernel_rfl) R38.out
          go_wp2_with (go_at_call 29; go_must (refine (Num_any r.g Hr.out.g _).mono ?_; rintro e w39 ⟨xO, rfl, hown, hb⟩; have O_39 := Lib.hid (Itm.own hown); obtain ⟨AO, cO, rfl, hcl, hrd⟩ := own8_form hown; clear hcl hrd; have B39 := Lib.hid (B38.out.trans (hb.mono B38.out.size)); have R39 := Lib.hid (heap_below R38.out hb); have N_39 := Lib.hid (N_38.out.below hb); have M_39 := Lib.hid (M_38.out.below hb); have W_39 := Lib.hid (W_38.out.below hb); clear hown hb))
          refine ⟨rfl, ?_⟩
          apply AnyC.solo (i := 17) rfl (by kernel_rfl) R39.out
          go_wp2
          refine ⟨rfl, ?_⟩
          have LS := Lib.hid (Itms.lists (.cons W_39.out (.cons N_39.out (.cons M_39.out (.cons O_39.out (.cons (root_parts Hr.out R39.out).1 (.cons (root_parts Hr.out R39.out).2.1 (.cons (root_parts Hr.out R39.out).2.2.1 Itms.nil))))))) 96)
          have BL : Hid (∀ o, Below w.heap.size w (w39.alloc o) ∧ Below w39.heap.size w39 (w39.alloc o)) := fun o => ⟨B39.out.alloc B39.out.size _, (Below.refl _ _).alloc (Nat.le_refl _) _⟩
          apply AnyC.solo (i := 18) rfl (by kernel_rfl) (heap_below R39.out (BL.out _).2)
          go_wp2_with (go_at_call 148; go_must (refine (must_any (some ⟨w39.heap.size, 0, none⟩) 7 7 (rootL r) _ LS.out rfl (by decide)).mono ?_; rintro e w40 ⟨v, rfl, ho, hb⟩; obtain ⟨A1, c1, rfl, hc1, hr1⟩ := own8_form ho; have O40 := Lib.hid (own8_base ho (BL.out _).1.size); have B40 := Lib.hid ((BL.out _).1.trans (hb.mono (BL.out _).1.size)); have R40 := Lib.hid (heap_below (heap_below R39.out (BL.out _).2) hb); clear ho hb hr1 hc1))
          refine ⟨rfl, ?_⟩
          apply AnyC.take (i := 19) rfl (by kernel_rfl) rfl
          · intro w' hC K hK
            go_wp2
            exact hK
          · rfl
          refine AnyC.done R40.out (by kernel_rfl) ?_
          go_wp2
          refine bodyPost_ret (v := .slice A1 (encB (rootL r)).length c1) (by simp [results, Tryz.results117]) rfl ⟨_, rfl, O40.out, B40.out⟩
        · go_wp2_with (go_at_call 29; go_must (refine (Num_any r.g Hr.out.g _).mono ?_; rintro e w41 ⟨xO, rfl, hown, hb⟩; have O_41 := Lib.hid (Itm.own hown); obtain ⟨AO, cO, rfl, hcl, hrd⟩ := own8_form hown; clear hcl hrd; have B41 := Lib.hid (B37.out.trans (hb.mono B37.out.size)); have R41 := Lib.hid (heap_below R37.out hb); have N_41 := Lib.hid (N_37.out.below hb); have M_41 := Lib.hid (M_37.out.below hb); have Q_41 := Lib.hid (heap_below Q_37.out hb); clear hown hb))
          refine ⟨rfl, ?_⟩
          apply AnyC.solo (i := 1) rfl (by kernel_rfl) R41.out
          have hcv := run_conv_mark (n := 4) (c := 4) (m := 4) Q_41.out rfl
          have MW := Lib.hid (mark_world (n := 4) Q_41.out)
          go_wp2
          refine ⟨rfl, ?_⟩
          clear hcv
          obtain ⟨w42, hw⟩ : ∃ w42, w42 = w41.freeze ⟨bq, 4, none⟩ 1 := ⟨_, rfl⟩
          rw [← hw]
          rw [← hw] at MW
          have W_42 := Lib.hid ((Itm.row (n := 4) Q_41.out rootW_cells rfl).cells MW.out.1 MW.out.2.1)
          have B42 := Lib.hid (B41.out.trans (MW.out.2.2.2 _ (Nat.le_of_lt BQ.out)))
          have R42 := Lib.hid ((MW.out.2.2.1 _ (Nat.ne_of_lt BQ.out)).trans R41.out)
          have N_42 := Lib.hid (N_41.out.cells MW.out.1 MW.out.2.1)
          have M_42 := Lib.hid (M_41.out.cells MW.out.1 MW.out.2.1)
          have O_42 := Lib.hid (O_41.out.cells MW.out.1 MW.out.2.1)
          clear hw MW
          apply AnyC.solo (i := 17) rfl (by kernel_rfl) R42.out
          go_wp2
          refine ⟨rfl, ?_⟩
          have LS := Lib.hid (Itms.lists (.cons W_42.out (.cons N_42.out (.cons M_42.out (.cons O_42.out (.cons (root_parts Hr.out R42.out).1 (.cons (root_parts Hr.out R42.out).2.1 (.cons (root_parts Hr.out R42.out).2.2.1 Itms.nil))))))) 96)
          have BL : Hid (∀ o, Below w.heap.size w (w42.alloc o) ∧ Below w42.heap.size w42 (w42.alloc o)) := fun o => ⟨B42.out.alloc B42.out.size _, (Below.refl _ _).alloc (Nat.le_refl _) _⟩
          apply AnyC.solo (i := 18) rfl (by kernel_rfl) (heap_below R42.out (BL.out _).2)
          go_wp2_with (go_at_call 148; go_must (refine (must_any (some ⟨w42.heap.size, 0, none⟩) 7 7 (rootL r) _ LS.out rfl (by decide)).mono ?_; rintro e w43 ⟨v, rfl, ho, hb⟩; obtain ⟨A1, c1, rfl, hc1, hr1⟩ := own8_form ho; have O43 := Lib.hid (own8_base ho (BL.out _).1.size); have B43 := Lib.hid ((BL.out _).1.trans (hb.mono (BL.out _).1.size)); have R43 := Lib.hid (heap_below (heap_below R42.out (BL.out _).2) hb); clear ho hb hr1 hc1))
          refine ⟨rfl, ?_⟩
          apply AnyC.take (i := 19) rfl (by kernel_rfl) rfl
          · intro w' hC K hK
            go_wp2
            exact hK
          · rfl
          refine AnyC.done R43.out (by kernel_rfl) ?_
          go_wp2
          refine bodyPost_ret (v := .slice A1 (encB (rootL r)).length c1) (by simp [results, Tryz.results117]) rfl ⟨_, rfl, O43.out, B43.out⟩
      · go_wp2_with (go_at_call 29; go_must (refine (Num_any r.g Hr.out.g _).mono ?_; rintro e w44 ⟨xO, rfl, hown, hb⟩; have O_44 := Lib.hid (Itm.own hown); obtain ⟨AO, cO, rfl, hcl, hrd⟩ := own8_form hown; clear hcl hrd; have B44 := Lib.hid (B36.out.trans (hb.mono B36.out.size)); have R44 := Lib.hid (heap_below R36.out hb); have N_44 := Lib.hid (N_36.out.below hb); have M_44 := Lib.hid (M_36.out.below hb); clear hown hb))
        refine ⟨rfl, ?_⟩
        apply AnyC.solo (i := 0) rfl (by kernel_rfl) R44.out
        go_wp2
        refine ⟨rfl, ?_⟩
        obtain ⟨w45, hw⟩ : ∃ w45, w45 = w44.alloc (.cells #[.int .u8 114, .int .u8 111, .int .u8 111, .int .u8 116] 5) := ⟨_, rfl⟩
        rw [← hw]
        obtain ⟨bq, hbq⟩ : ∃ bq, bq = w44.heap.size := ⟨_, rfl⟩
        rw [← hbq]
        have hb : Below w44.heap.size w44 w45 := by rw [hw]; exact (Below.refl _ _).alloc (Nat.le_refl _) _
        have Q_45 : Hid (w45.heap[bq]? = some (.cells #[.int .u8 114, .int .u8 111, .int .u8 111, .int .u8 116] 5 (0, 0))) := by show _ = _; rw [hw, hbq]; exact heap_alloc_new w44 _
        have BQ : Hid (w.heap.size < bq) := by show _ < _; rw [hbq]; exact lt_of_heap R44.out
        have B45 := Lib.hid (B44.out.trans (hb.mono B44.out.size))
        have R45 := Lib.hid (heap_below R44.out hb)
        have N_45 := Lib.hid (N_44.out.below hb)
        have M_45 := Lib.hid (M_44.out.below hb)
        have O_45 := Lib.hid (O_44.out.below hb)
        clear hb hw hbq
        apply AnyC.solo (i := 1) rfl (by kernel_rfl) R45.out
        have hcv := run_conv_mark (n := 4) (c := 4) (m := 4) Q_45.out rfl
        have MW := Lib.hid (mark_world (n := 4) Q_45.out)
        go_wp2
        refine ⟨rfl, ?_⟩
        clear hcv
        obtain ⟨w46, hw⟩ : ∃ w46, w46 = w45.freeze ⟨bq, 4, none⟩ 1 := ⟨_, rfl⟩
        rw [← hw]
        rw [← hw] at MW
        have W_46 := Lib.hid ((Itm.row (n := 4) Q_45.out rootW_cells rfl).cells MW.out.1 MW.out.2.1)
        have B46 := Lib.hid (B45.out.trans (MW.out.2.2.2 _ (Nat.le_of_lt BQ.out)))
        have R46 := Lib.hid ((MW.out.2.2.1 _ (Nat.ne_of_lt BQ.out)).trans R45.out)
        have N_46 := Lib.hid (N_45.out.cells MW.out.1 MW.out.2.1)
        have M_46 := Lib.hid (M_45.out.cells MW.out.1 MW.out.2.1)
        have O_46 := Lib.hid (O_45.out.cells MW.out.1 MW.out.2.1)
        clear hw MW
        apply AnyC.solo (i := 17) rfl (by kernel_rfl) R46.out
        go_wp2
        refine ⟨rfl, ?_⟩
        have LS := Lib.hid (Itms.lists (.cons W_46.out (.cons N_46.out (.cons M_46.out (.cons O_46.out (.cons (root_parts Hr.out R46.out).1 (.cons (root_parts Hr.out R46.out).2.1 (.cons (root_parts Hr.out R46.out).2.2.1 Itms.nil))))))) 96)
        have BL : Hid (∀ o, Below w.heap.size w (w46.alloc o) ∧ Below w46.heap.size w46 (w46.alloc o)) := fun o => ⟨B46.out.alloc B46.out.size _, (Below.refl _ _).alloc (Nat.le_refl _) _⟩
        apply AnyC.solo (i := 18) rfl (by kernel_rfl) (heap_below R46.out (BL.out _).2)
        go_wp2_with (go_at_call 148; go_must (refine (must_any (some ⟨w46.heap.size, 0, none⟩) 7 7 (rootL r) _ LS.out rfl (by decide)).mono ?_; rintro e w47 ⟨v, rfl, ho, hb⟩; obtain ⟨A1, c1, rfl, hc1, hr1⟩ := own8_form ho; have O47 := Lib.hid (own8_base ho (BL.out _).1.size); have B47 := Lib.hid ((BL.out _).1.trans (hb.mono (BL.out _).1.size)); have R47 := Lib.hid (heap_below (heap_below R46.out (BL.out _).2) hb); clear ho hb hr1 hc1))
        refine ⟨rfl, ?_⟩
        apply AnyC.take (i := 19) rfl (by kernel_rfl) rfl
        · intro w' hC K hK
          go_wp2
          exact hK
        · rfl
        refine AnyC.done R47.out (by kernel_rfl) ?_
        go_wp2
        refine bodyPost_ret (v := .slice A1 (encB (rootL r)).length c1) (by simp [results, Tryz.results117]) rfl ⟨_, rfl, O47.out, B47.out⟩
end Go.Proofs.YtbcpmnnlhdgbhaaGreatDoor
