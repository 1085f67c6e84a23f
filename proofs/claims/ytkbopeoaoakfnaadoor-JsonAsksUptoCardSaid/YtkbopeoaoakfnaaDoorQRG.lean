/- The texts RR12 RR13 of this work, merged by wip/merge.py. No conditions. -/
import Derived.Test.YtkbopeoaoakfnaaDoorQRF
import Derived.Test.YtkbopeoaoakfnaaDoorQJI
import Derived.Test.YtkbopeoaoakfnaaDoorQR
import Derived.Test.YtkbopeoaoakfnaaDoorQG
namespace Go.Proofs.YtkbopeoaoakfnaaDoor
open Go.RowKit
section
variable {w0 w w' : World} {g : Nat} {sb : ByteArray} {s : List UInt8} {st : PS}
/-- The end of value: the tree goes into the result. -/
theorem TrPost.out {p : JV × PS} {ok : Bool} {t : TR} {B : Nat} {wx : World} {a0 a1 a2 a3 a4 : Value} (hB : B = w.heap.size) (hT : IsT wx (fun k => B + 1 ≤ k ∧ k < wx.heap.size) [a0, a1, a2, a3, a4] t) (hP : RPost w g sb p.2 ok wx) (hok : ok = true → t = jt p.1) :
    TrPost w w g sb p (.returned (.tuple #[.agg #[a0, a1, a2, a3, a4], .bool ok])) (set5 wx B a0 a1 a2 a3 a4) := by
  refine ⟨ok, [a0, a1, a2, a3, a4], t, rfl, hT.keep (fun q hq => set5_turn.block q hq.2 (by omega)) (fun q hq => ⟨by omega, Nat.lt_of_lt_of_le hq.2 set5_turn.size⟩), ?_, hok⟩
  rcases hP with ⟨h1, h2, h3⟩ | ⟨k, e, d', h1, h2, h3, h4⟩
  · exact .inl ⟨h1, h2, h3.free set5_turn (by omega)⟩
  · exact .inr ⟨k, e, d', h1, h2, h3, h4.free set5_turn (by omega)⟩
theorem RPost.turn {st' : PS} {ok : Bool} (h : RPost w0 g sb st' ok w') : Turn g w0 w' := by
  rcases h with ⟨_, _, h3⟩ | ⟨_, _, _, _, _, _, h4⟩
  · exact h3.turn
  · exact h4.turn
theorem ofBytes (x : ByteArray) : ∃ l : List UInt8, x = ⟨l.toArray⟩ := ⟨x.data.toList, by simp⟩
theorem leaf_isT (wx : World) (F : Nat → Prop) (k : Int) (b : Bool) (l : List UInt8) : IsT wx F [.int .i64 k, .bool b, .string ⟨l.toArray⟩, .slice none 0 0, .slice none 0 0] (.mk k b l [] []) :=
  .mk k b l none 0 [] none 0 [] [] rfl (fun h => absurd rfl h) (fun h => absurd rfl h) (fun i us t h => by cases h)
theorem fail_numb (h : st.fault ≠ none) : (st.numb s).fault = st.fault := by
  have hn : ∀ c, (st.next s c).fault ≠ none := fun c => by rw [PS.next_fault]; exact h
  have hA : (st.numA s).fault = st.fault := by
    unfold PS.numA
    split
    · rw [PS.next_fault, PS.next_fault]
    · unfold PS.digits
      split
      · rw [PS.fail_some (hn 45), PS.next_fault]
      · exact PS.next_fault _ _ _
  unfold PS.numb
  rw [numBC_fault (by rw [hA]; exact h), hA]
theorem end_numb (hf : st.fault = none) (h : s[st.at_]? = none) : (st.numb s).fault = some ((st.at_ : Int), 2) := by
  have hs : ∀ c, st.sees s c = false := fun c => by unfold PS.sees; rw [h]; rfl
  have hl : s.length ≤ st.at_ := List.getElem?_eq_none_iff.1 h
  have hA : st.numA s = st.fail st.at_ 2 := by
    unfold PS.numA
    rw [PS.next_no (hs 45), hs 48, if_neg (by decide)]
    unfold PS.digits
    rw [if_pos (by rw [List.drop_eq_nil_of_le hl]; rfl)]
  unfold PS.numb
  rw [hA, numBC_fault (PS.fail_ne _ _ _), PS.fail_none hf]
set_option maxRecDepth 100000 in
set_option maxHeartbeats 800000 in
theorem rvalue_list {n : Nat} (hV : RVAL s n) (hn : s.length - st.at_ ≤ n) (hd0 : 0 ≤ st.depth) (hd1 : st.depth ≤ 16) (hs : sb = ⟨s.toArray⟩) (h : RA w g sb w st.at_ st.depth false) (hf : st.fault = none) (hc : s[st.at_]? = some 91) : Calls Tryd.prog 35 #[.pointer (some ⟨g, 0, none⟩)] w (TrPost w w g sb (valP s (n + 1) st)) := by
  have HC : Hid (s.getD st.at_ 0 = 91) := by show _ = _; simp [List.getD, hc]
  have HL : Hid (st.at_ < s.length) := by
    show _ < _
    rcases Nat.lt_or_ge st.at_ s.length with h' | h'
    · exact h'
    · rw [List.getElem?_eq_none h'] at hc; cases hc
  have hv : valP s (n + 1) st = (JV.list (memP s 93 (listOne (valP s n)) n [] st).1, (memP s 93 (listOne (valP s n)) n [] st).2) := by
    conv => lhs; unfold valP
    rw [if_pos hf, hc]
    rfl
  rw [hv]
  have HS := Lib.hid hs
  have H := Lib.hid h
  have HF := Lib.hid hf
  obtain ⟨B, hBe⟩ : ∃ B, B = w.heap.size := ⟨_, rfl⟩
  obtain ⟨w1, hw1⟩ : ∃ w1, w1 = w.alloc (.cells #[.int .i64 0, .bool false, .string ⟨#[]⟩, .slice none 0 0, .slice none 0 0] 35) := ⟨_, rfl⟩
  have hb1 : Below w.heap.size w w1 := by rw [hw1]; exact (Below.refl _ _).alloc (Nat.le_refl _) _
  have hz : w1.heap[B]? = some (.cells #[.int .i64 0, .bool false, .string ⟨#[]⟩, .slice none 0 0, .slice none 0 0] 35 (0, 0)) := by rw [hw1, hBe]; exact heap_alloc_new _ _
  have R1 := Lib.hid (h.below hb1)
  have HZ := Lib.hid hz
  have HBe := Lib.hid hBe
  have HGB : Hid (g < B) := by show _ < _; rw [hBe]; exact h.glt
  have HSZ1 : Hid (w1.heap.size = B + 1) := by show _ = _; rw [hw1, hBe]; simp
  have HCL := fun j => rlist_at hV HS.out (R1.out.drewN j).self HF.out HL.out hn hd0 hd1
  have HCLL := Lib.hid HCL
  clear hs h hf hc hv hb1 hz HCL hV hn hd0 hd1
  go_enter Tryd.func35, Tryd.ntmps35
  go_upto_region 1 with (fail)
  rw [← hw1, ← hBe]
  clear hw1 hBe
  go_wp2_with (first
    | (go_at_call 63; go_must (refine (here_q R1.out HS.out (by rfl) HC.out).mono ?_; rintro e w5_ ⟨rfl, j, rfl⟩))
    | (go_at_call 64; go_must (refine (HCLL.out j).mono ?_; rintro e w5 ⟨ok, us, t, rfl, hT5, hP5, hok⟩; obtain ⟨kx, bx, sx, Ax, nx, cx, Ay, ny, cy, rfl⟩ := hT5.form; have HT5 := Lib.hid hT5; have HP5 := Lib.hid (RPost.lift (R1.out.drewN j) hP5); have HTN := Lib.hid hP5.turn; have HOK := Lib.hid hok; clear hT5 hP5 hok; have q1 := heap_turn HZ.out (((Turn.refl g w1).drewN j).trans HTN.out) (by have := HGB.out; omega); have Q1 := Lib.hid q1; obtain ⟨z0, z1, z2, z3, z4, zf⟩ := row5 q1; clear q1)))
  have h9 := set5_row (a0 := .int .i64 kx) (a1 := .bool bx) (a2 := .string ⟨sx.toArray⟩) (a3 := .slice Ax nx cx) (a4 := .slice Ay ny cy) Q1.out
  refine bodyPost_ret (results_row_tmp rfl _ _ B _ _ _ _ rfl h9 Tryd.underlying35 rfl tree5) rfl ?_
  exact TrPost.out HBe.out (HT5.out.keep (fun _ _ => rfl) (fun q hq => ⟨by have h1_ : w1.heap.size ≤ q := hq.1; have h2_ := HSZ1.out; omega, hq.2⟩)) HP5.out HOK.out
set_option maxRecDepth 100000 in
set_option maxHeartbeats 800000 in
theorem rvalue_obj {n : Nat} (hV : RVAL s n) (hn : s.length - st.at_ ≤ n) (hd0 : 0 ≤ st.depth) (hd1 : st.depth ≤ 16) (hs : sb = ⟨s.toArray⟩) (h : RA w g sb w st.at_ st.depth false) (hf : st.fault = none) (hc : s[st.at_]? = some 123) : Calls Tryd.prog 35 #[.pointer (some ⟨g, 0, none⟩)] w (TrPost w w g sb (valP s (n + 1) st)) := by
  have HC : Hid (s.getD st.at_ 0 = 123) := by show _ = _; simp [List.getD, hc]
  have HL : Hid (st.at_ < s.length) := by
    show _ < _
    rcases Nat.lt_or_ge st.at_ s.length with h' | h'
    · exact h'
    · rw [List.getElem?_eq_none h'] at hc; cases hc
  have hv : valP s (n + 1) st = (JV.obj (memP s 125 (objOne s (valP s n)) n ([], []) st).1.1 (memP s 125 (objOne s (valP s n)) n ([], []) st).1.2, (memP s 125 (objOne s (valP s n)) n ([], []) st).2) := by
    conv => lhs; unfold valP
    rw [if_pos hf, hc]
    rfl
  rw [hv]
  have HS := Lib.hid hs
  have H := Lib.hid h
  have HF := Lib.hid hf
  obtain ⟨B, hBe⟩ : ∃ B, B = w.heap.size := ⟨_, rfl⟩
  obtain ⟨w1, hw1⟩ : ∃ w1, w1 = w.alloc (.cells #[.int .i64 0, .bool false, .string ⟨#[]⟩, .slice none 0 0, .slice none 0 0] 35) := ⟨_, rfl⟩
  have hb1 : Below w.heap.size w w1 := by rw [hw1]; exact (Below.refl _ _).alloc (Nat.le_refl _) _
  have hz : w1.heap[B]? = some (.cells #[.int .i64 0, .bool false, .string ⟨#[]⟩, .slice none 0 0, .slice none 0 0] 35 (0, 0)) := by rw [hw1, hBe]; exact heap_alloc_new _ _
  have R1 := Lib.hid (h.below hb1)
  have HZ := Lib.hid hz
  have HBe := Lib.hid hBe
  have HGB : Hid (g < B) := by show _ < _; rw [hBe]; exact h.glt
  have HSZ1 : Hid (w1.heap.size = B + 1) := by show _ = _; rw [hw1, hBe]; simp
  have HCL := fun j => robject_at hV HS.out (R1.out.drewN j).self HF.out HL.out hn hd0 hd1
  have HCLL := Lib.hid HCL
  clear hs h hf hc hv hb1 hz HCL hV hn hd0 hd1
  go_enter Tryd.func35, Tryd.ntmps35
  go_upto_region 1 with (fail)
  rw [← hw1, ← hBe]
  clear hw1 hBe
  go_wp2_with (first
    | (go_at_call 63; go_must (refine (here_q R1.out HS.out (by rfl) HC.out).mono ?_; rintro e w5_ ⟨rfl, j, rfl⟩))
    | (go_at_call 65; go_must (refine (HCLL.out j).mono ?_; rintro e w5 ⟨ok, us, t, rfl, hT5, hP5, hok⟩; obtain ⟨kx, bx, sx, Ax, nx, cx, Ay, ny, cy, rfl⟩ := hT5.form; have HT5 := Lib.hid hT5; have HP5 := Lib.hid (RPost.lift (R1.out.drewN j) hP5); have HTN := Lib.hid hP5.turn; have HOK := Lib.hid hok; clear hT5 hP5 hok; have q1 := heap_turn HZ.out (((Turn.refl g w1).drewN j).trans HTN.out) (by have := HGB.out; omega); have Q1 := Lib.hid q1; obtain ⟨z0, z1, z2, z3, z4, zf⟩ := row5 q1; clear q1)))
  have h9 := set5_row (a0 := .int .i64 kx) (a1 := .bool bx) (a2 := .string ⟨sx.toArray⟩) (a3 := .slice Ax nx cx) (a4 := .slice Ay ny cy) Q1.out
  refine bodyPost_ret (results_row_tmp rfl _ _ B _ _ _ _ rfl h9 Tryd.underlying35 rfl tree5) rfl ?_
  exact TrPost.out HBe.out (HT5.out.keep (fun _ _ => rfl) (fun q hq => ⟨by have h1_ : w1.heap.size ≤ q := hq.1; have h2_ := HSZ1.out; omega, hq.2⟩)) HP5.out HOK.out
set_option maxRecDepth 100000 in
set_option maxHeartbeats 800000 in
theorem rvalue_text {n : Nat} (hs : sb = ⟨s.toArray⟩) (h : RA w g sb w st.at_ st.depth false) (hf : st.fault = none) (hc : s[st.at_]? = some 34) : Calls Tryd.prog 35 #[.pointer (some ⟨g, 0, none⟩)] w (TrPost w w g sb (valP s (n + 1) st)) := by
  have HC : Hid (s.getD st.at_ 0 = 34) := by show _ = _; simp [List.getD, hc]
  have hv : valP s (n + 1) st = (.text (st.textV s), st.text s) := by
    conv => lhs; unfold valP
    rw [if_pos hf, hc]
    rfl
  rw [hv]
  have HS := Lib.hid hs
  have H := Lib.hid h
  have HF := Lib.hid hf
  obtain ⟨B, hBe⟩ : ∃ B, B = w.heap.size := ⟨_, rfl⟩
  obtain ⟨w1, hw1⟩ : ∃ w1, w1 = w.alloc (.cells #[.int .i64 0, .bool false, .string ⟨#[]⟩, .slice none 0 0, .slice none 0 0] 35) := ⟨_, rfl⟩
  have hb1 : Below w.heap.size w w1 := by rw [hw1]; exact (Below.refl _ _).alloc (Nat.le_refl _) _
  have hz : w1.heap[B]? = some (.cells #[.int .i64 0, .bool false, .string ⟨#[]⟩, .slice none 0 0, .slice none 0 0] 35 (0, 0)) := by rw [hw1, hBe]; exact heap_alloc_new _ _
  have R1 := Lib.hid (h.below hb1)
  have HZ := Lib.hid hz
  have HBe := Lib.hid hBe
  have HGB : Hid (g < B) := by show _ < _; rw [hBe]; exact h.glt
  have HSZ1 : Hid (w1.heap.size = B + 1) := by show _ = _; rw [hw1, hBe]; simp
  have HCL := fun j => rtext_at (R1.out.drewN j).self HF.out HS.out
  have HCLL := Lib.hid HCL
  clear hs h hf hc hv hb1 hz HCL
  go_enter Tryd.func35, Tryd.ntmps35
  go_upto_region 1 with (fail)
  rw [← hw1, ← hBe]
  clear hw1 hBe
  go_wp2_with (first
    | (go_at_call 63; go_must (refine (here_q R1.out HS.out (by rfl) HC.out).mono ?_; rintro e w5_ ⟨rfl, j, rfl⟩))
    | (go_at_call 66; go_must (refine (HCLL.out j).mono ?_; rintro e w5 ⟨ok, x, rfl, hP5, hx⟩; obtain ⟨lx, rfl⟩ := ofBytes x; have HP5 := Lib.hid (RPost.lift (R1.out.drewN j) hP5); have HTN := Lib.hid hP5.turn; have HX := Lib.hid hx; clear hP5 hx; have q1 := heap_turn HZ.out (((Turn.refl g w1).drewN j).trans HTN.out) (by have := HGB.out; omega); have Q1 := Lib.hid q1; obtain ⟨z0, z1, z2, z3, z4, zf⟩ := row5 q1; clear q1)))
  have h9 := set5_row (a0 := .int .i64 3) (a1 := .bool false) (a2 := .string ⟨lx.toArray⟩) (a3 := .slice none 0 0) (a4 := .slice none 0 0) Q1.out
  refine bodyPost_ret (results_row_tmp rfl _ _ B _ _ _ _ rfl h9 Tryd.underlying35 rfl tree5) rfl ?_
  refine TrPost.out HBe.out (leaf_isT _ _ 3 false lx) HP5.out (fun e => ?_)
  have h_ := HX.out e
  have h2_ : lx = st.textV s := by have := congrArg (fun x : ByteArray => x.data.toList) h_; simpa using this
  rw [h2_]
  rfl
set_option maxRecDepth 100000 in
set_option maxHeartbeats 800000 in
theorem rvalue_true {n : Nat} (hs : sb = ⟨s.toArray⟩) (h : RA w g sb w st.at_ st.depth false) (hf : st.fault = none) (hc : s[st.at_]? = some 116) : Calls Tryd.prog 35 #[.pointer (some ⟨g, 0, none⟩)] w (TrPost w w g sb (valP s (n + 1) st)) := by
  have HC : Hid (s.getD st.at_ 0 = 116) := by show _ = _; simp [List.getD, hc]
  have hv : valP s (n + 1) st = (.bool true, st.word s [116, 114, 117, 101]) := by
    conv => lhs; unfold valP
    rw [if_pos hf, hc]
    rfl
  rw [hv]
  have HS := Lib.hid hs
  have H := Lib.hid h
  have HF := Lib.hid hf
  obtain ⟨B, hBe⟩ : ∃ B, B = w.heap.size := ⟨_, rfl⟩
  obtain ⟨w1, hw1⟩ : ∃ w1, w1 = w.alloc (.cells #[.int .i64 0, .bool false, .string ⟨#[]⟩, .slice none 0 0, .slice none 0 0] 35) := ⟨_, rfl⟩
  have hb1 : Below w.heap.size w w1 := by rw [hw1]; exact (Below.refl _ _).alloc (Nat.le_refl _) _
  have hz : w1.heap[B]? = some (.cells #[.int .i64 0, .bool false, .string ⟨#[]⟩, .slice none 0 0, .slice none 0 0] 35 (0, 0)) := by rw [hw1, hBe]; exact heap_alloc_new _ _
  have R1 := Lib.hid (h.below hb1)
  have HZ := Lib.hid hz
  have HBe := Lib.hid hBe
  have HGB : Hid (g < B) := by show _ < _; rw [hBe]; exact h.glt
  have HSZ1 : Hid (w1.heap.size = B + 1) := by show _ = _; rw [hw1, hBe]; simp
  have HCL := fun j => rword_at [116, 114, 117, 101] (by decide) (by decide) (R1.out.drewN j).self HF.out HS.out
  have HCLL := Lib.hid HCL
  clear hs h hf hc hv hb1 hz HCL
  go_enter Tryd.func35, Tryd.ntmps35
  go_upto_region 1 with (fail)
  rw [← hw1, ← hBe]
  clear hw1 hBe
  go_wp2_with (first
    | (go_at_call 63; go_must (refine (here_q R1.out HS.out (by rfl) HC.out).mono ?_; rintro e w5_ ⟨rfl, j, rfl⟩))
    | (go_at_call 67; go_must (refine (HCLL.out j).mono ?_; rintro e w5 ⟨ok, rfl, hP5⟩; have HP5 := Lib.hid (RPost.lift (R1.out.drewN j) hP5); have HTN := Lib.hid hP5.turn; clear hP5; have q1 := heap_turn HZ.out (((Turn.refl g w1).drewN j).trans HTN.out) (by have := HGB.out; omega); have Q1 := Lib.hid q1; obtain ⟨z0, z1, z2, z3, z4, zf⟩ := row5 q1; clear q1)))
  have h9 := set5_row (a0 := .int .i64 1) (a1 := .bool true) (a2 := .string ⟨#[]⟩) (a3 := .slice none 0 0) (a4 := .slice none 0 0) Q1.out
  refine bodyPost_ret (results_row_tmp rfl _ _ B _ _ _ _ rfl h9 Tryd.underlying35 rfl tree5) rfl ?_
  exact TrPost.out HBe.out (leaf_isT _ _ 1 true []) HP5.out (fun _ => rfl)
set_option maxRecDepth 100000 in
set_option maxHeartbeats 800000 in
theorem rvalue_false {n : Nat} (hs : sb = ⟨s.toArray⟩) (h : RA w g sb w st.at_ st.depth false) (hf : st.fault = none) (hc : s[st.at_]? = some 102) : Calls Tryd.prog 35 #[.pointer (some ⟨g, 0, none⟩)] w (TrPost w w g sb (valP s (n + 1) st)) := by
  have HC : Hid (s.getD st.at_ 0 = 102) := by show _ = _; simp [List.getD, hc]
  have hv : valP s (n + 1) st = (.bool false, st.word s [102, 97, 108, 115, 101]) := by
    conv => lhs; unfold valP
    rw [if_pos hf, hc]
    rfl
  rw [hv]
  have HS := Lib.hid hs
  have H := Lib.hid h
  have HF := Lib.hid hf
  obtain ⟨B, hBe⟩ : ∃ B, B = w.heap.size := ⟨_, rfl⟩
  obtain ⟨w1, hw1⟩ : ∃ w1, w1 = w.alloc (.cells #[.int .i64 0, .bool false, .string ⟨#[]⟩, .slice none 0 0, .slice none 0 0] 35) := ⟨_, rfl⟩
  have hb1 : Below w.heap.size w w1 := by rw [hw1]; exact (Below.refl _ _).alloc (Nat.le_refl _) _
  have hz : w1.heap[B]? = some (.cells #[.int .i64 0, .bool false, .string ⟨#[]⟩, .slice none 0 0, .slice none 0 0] 35 (0, 0)) := by rw [hw1, hBe]; exact heap_alloc_new _ _
  have R1 := Lib.hid (h.below hb1)
  have HZ := Lib.hid hz
  have HBe := Lib.hid hBe
  have HGB : Hid (g < B) := by show _ < _; rw [hBe]; exact h.glt
  have HSZ1 : Hid (w1.heap.size = B + 1) := by show _ = _; rw [hw1, hBe]; simp
  have HCL := fun j => rword_at [102, 97, 108, 115, 101] (by decide) (by decide) (R1.out.drewN j).self HF.out HS.out
  have HCLL := Lib.hid HCL
  clear hs h hf hc hv hb1 hz HCL
  go_enter Tryd.func35, Tryd.ntmps35
  go_upto_region 1 with (fail)
  rw [← hw1, ← hBe]
  clear hw1 hBe
  go_wp2_with (first
    | (go_at_call 63; go_must (refine (here_q R1.out HS.out (by rfl) HC.out).mono ?_; rintro e w5_ ⟨rfl, j, rfl⟩))
    | (go_at_call 67; go_must (refine (HCLL.out j).mono ?_; rintro e w5 ⟨ok, rfl, hP5⟩; have HP5 := Lib.hid (RPost.lift (R1.out.drewN j) hP5); have HTN := Lib.hid hP5.turn; clear hP5; have q1 := heap_turn HZ.out (((Turn.refl g w1).drewN j).trans HTN.out) (by have := HGB.out; omega); have Q1 := Lib.hid q1; obtain ⟨z0, z1, z2, z3, z4, zf⟩ := row5 q1; clear q1)))
  have h9 := set5_row (a0 := .int .i64 1) (a1 := .bool false) (a2 := .string ⟨#[]⟩) (a3 := .slice none 0 0) (a4 := .slice none 0 0) Q1.out
  refine bodyPost_ret (results_row_tmp rfl _ _ B _ _ _ _ rfl h9 Tryd.underlying35 rfl tree5) rfl ?_
  exact TrPost.out HBe.out (leaf_isT _ _ 1 false []) HP5.out (fun _ => rfl)
set_option maxRecDepth 100000 in
set_option maxHeartbeats 800000 in
theorem rvalue_null {n : Nat} (hs : sb = ⟨s.toArray⟩) (h : RA w g sb w st.at_ st.depth false) (hf : st.fault = none) (hc : s[st.at_]? = some 110) : Calls Tryd.prog 35 #[.pointer (some ⟨g, 0, none⟩)] w (TrPost w w g sb (valP s (n + 1) st)) := by
  have HC : Hid (s.getD st.at_ 0 = 110) := by show _ = _; simp [List.getD, hc]
  have hv : valP s (n + 1) st = (.null, st.word s [110, 117, 108, 108]) := by
    conv => lhs; unfold valP
    rw [if_pos hf, hc]
    rfl
  rw [hv]
  have HS := Lib.hid hs
  have H := Lib.hid h
  have HF := Lib.hid hf
  obtain ⟨B, hBe⟩ : ∃ B, B = w.heap.size := ⟨_, rfl⟩
  obtain ⟨w1, hw1⟩ : ∃ w1, w1 = w.alloc (.cells #[.int .i64 0, .bool false, .string ⟨#[]⟩, .slice none 0 0, .slice none 0 0] 35) := ⟨_, rfl⟩
  have hb1 : Below w.heap.size w w1 := by rw [hw1]; exact (Below.refl _ _).alloc (Nat.le_refl _) _
  have hz : w1.heap[B]? = some (.cells #[.int .i64 0, .bool false, .string ⟨#[]⟩, .slice none 0 0, .slice none 0 0] 35 (0, 0)) := by rw [hw1, hBe]; exact heap_alloc_new _ _
  have R1 := Lib.hid (h.below hb1)
  have HZ := Lib.hid hz
  have HBe := Lib.hid hBe
  have HGB : Hid (g < B) := by show _ < _; rw [hBe]; exact h.glt
  have HSZ1 : Hid (w1.heap.size = B + 1) := by show _ = _; rw [hw1, hBe]; simp
  have HCL := fun j => rword_at [110, 117, 108, 108] (by decide) (by decide) (R1.out.drewN j).self HF.out HS.out
  have HCLL := Lib.hid HCL
  clear hs h hf hc hv hb1 hz HCL
  go_enter Tryd.func35, Tryd.ntmps35
  go_upto_region 1 with (fail)
  rw [← hw1, ← hBe]
  clear hw1 hBe
  go_wp2_with (first
    | (go_at_call 63; go_must (refine (here_q R1.out HS.out (by rfl) HC.out).mono ?_; rintro e w5_ ⟨rfl, j, rfl⟩))
    | (go_at_call 67; go_must (refine (HCLL.out j).mono ?_; rintro e w5 ⟨ok, rfl, hP5⟩; have HP5 := Lib.hid (RPost.lift (R1.out.drewN j) hP5); have HTN := Lib.hid hP5.turn; clear hP5; have q1 := heap_turn HZ.out (((Turn.refl g w1).drewN j).trans HTN.out) (by have := HGB.out; omega); have Q1 := Lib.hid q1; obtain ⟨z0, z1, z2, z3, z4, zf⟩ := row5 q1; clear q1)))
  have h9 := set5_row (a0 := .int .i64 0) (a1 := .bool false) (a2 := .string ⟨#[]⟩) (a3 := .slice none 0 0) (a4 := .slice none 0 0) Q1.out
  refine bodyPost_ret (results_row_tmp rfl _ _ B _ _ _ _ rfl h9 Tryd.underlying35 rfl tree5) rfl ?_
  exact TrPost.out HBe.out (leaf_isT _ _ 0 false []) HP5.out (fun _ => rfl)
set_option maxRecDepth 100000 in
set_option maxHeartbeats 800000 in
theorem rvalue_num {p : JV × PS} {c : UInt8} (hs : sb = ⟨s.toArray⟩) (h : RA w g sb w st.at_ st.depth false) (hf : st.fault = none) (hc : s.getD st.at_ 0 = c) (n1 : c ≠ 123) (n2 : c ≠ 91) (n3 : c ≠ 34) (n4 : c ≠ 116) (n5 : c ≠ 102) (n6 : c ≠ 110)
    (hp : ((st.numb s).fault = none → p = (.num (st.numS s), st.numb s)) ∧ ((st.numb s).fault ≠ none → p.2.fault = (st.numb s).fault)) : Calls Tryd.prog 35 #[.pointer (some ⟨g, 0, none⟩)] w (TrPost w w g sb p) := by
  have HS := Lib.hid hs
  have H := Lib.hid h
  have HF := Lib.hid hf
  obtain ⟨B, hBe⟩ : ∃ B, B = w.heap.size := ⟨_, rfl⟩
  obtain ⟨w1, hw1⟩ : ∃ w1, w1 = w.alloc (.cells #[.int .i64 0, .bool false, .string ⟨#[]⟩, .slice none 0 0, .slice none 0 0] 35) := ⟨_, rfl⟩
  have hb1 : Below w.heap.size w w1 := by rw [hw1]; exact (Below.refl _ _).alloc (Nat.le_refl _) _
  have hz : w1.heap[B]? = some (.cells #[.int .i64 0, .bool false, .string ⟨#[]⟩, .slice none 0 0, .slice none 0 0] 35 (0, 0)) := by rw [hw1, hBe]; exact heap_alloc_new _ _
  have R1 := Lib.hid (h.below hb1)
  have HZ := Lib.hid hz
  have HBe := Lib.hid hBe
  have HGB : Hid (g < B) := by show _ < _; rw [hBe]; exact h.glt
  have HSZ1 : Hid (w1.heap.size = B + 1) := by show _ = _; rw [hw1, hBe]; simp
  have HC := Lib.hid hc
  have HPP := Lib.hid hp
  have HCL := fun j => rnumber_at (R1.out.drewN j).self HF.out HS.out
  have HCLL := Lib.hid HCL
  have q1 := ne_num n1
  have q2 := ne_num n2
  have q3 := ne_num n3
  have q4 := ne_num n4
  have q5 := ne_num n5
  have q6 := ne_num n6
  have r1 : ((c.toNat : Int) == 123) = false := q1
  have r2 : ((c.toNat : Int) == 91) = false := q2
  have r3 : ((c.toNat : Int) == 34) = false := q3
  have r4 : ((c.toNat : Int) == 116) = false := q4
  have r5 : ((c.toNat : Int) == 102) = false := q5
  have r6 : ((c.toNat : Int) == 110) = false := q6
  clear hs h hf hc hb1 hz HCL hp q1 q2 q3 q4 q5 q6 n1 n2 n3 n4 n5 n6
  go_enter Tryd.func35, Tryd.ntmps35
  go_upto_region 1 with (fail)
  rw [← hw1, ← hBe]
  clear hw1 hBe
  go_wp2_with (first
    | (go_at_call 63; go_must (refine (here_q R1.out HS.out (by rfl) HC.out).mono ?_; rintro e w5_ ⟨rfl, j, rfl⟩))
    | (go_at_call 68; go_must (refine (HCLL.out j).mono ?_; rintro e w5 ⟨ok, x, rfl, hP5, hx⟩; obtain ⟨lx, rfl⟩ := ofBytes x; have HP5 := Lib.hid (RPost.lift (R1.out.drewN j) hP5); have HTN := Lib.hid hP5.turn; have HX := Lib.hid hx; clear hP5 hx; have q1 := heap_turn HZ.out (((Turn.refl g w1).drewN j).trans HTN.out) (by have := HGB.out; omega); have Q1 := Lib.hid q1; obtain ⟨z0, z1, z2, z3, z4, zf⟩ := row5 q1; clear q1)))
  have h9 := set5_row (a0 := .int .i64 2) (a1 := .bool false) (a2 := .string ⟨lx.toArray⟩) (a3 := .slice none 0 0) (a4 := .slice none 0 0) Q1.out
  refine bodyPost_ret (results_row_tmp rfl _ _ B _ _ _ _ rfl h9 Tryd.underlying35 rfl tree5) rfl ?_
  by_cases hnf : (st.numb s).fault = none
  · have hpe := HPP.out.1 hnf
    rw [hpe]
    refine TrPost.out HBe.out (leaf_isT _ _ 2 false lx) HP5.out (fun e => ?_)
    have h_ := HX.out e
    have h2_ : lx = st.numS s := by have := congrArg (fun x : ByteArray => x.data.toList) h_; simpa using this
    rw [h2_]
    rfl
  · obtain ⟨e0, kf, ef, df, e1, e2, h5⟩ := HP5.out.false_ hnf
    subst e0
    exact TrPost.out HBe.out (leaf_isT _ _ 2 false lx) (RPost.fault_eq e1 e2 h5 (HPP.out.2 hnf)) (fun e => by cases e)
end
/-- The reference's value, for every text. -/
theorem rval_all (s : List UInt8) : ∀ n, RVAL s n
  | 0 => fun _ _ _ _ _ _ _ h => absurd h (Nat.not_lt_zero _)
  | n + 1 => by
    intro g w st sb hs h hf hn hd0 hd1
    cases hc : s[st.at_]? with
    | none =>
      have hg : s.getD st.at_ 0 = 0 := by simp [List.getD, hc]
      refine rvalue_num hs h hf hg (by decide) (by decide) (by decide) (by decide) (by decide) (by decide) ⟨fun e => ?_, fun _ => ?_⟩
      · rw [end_numb hf hc] at e; cases e
      · rw [valP_none hf hc, end_numb hf hc]
        show ((st.fail st.at_ 2).numb s).fault = _
        rw [fail_numb (PS.fail_ne _ _ _), PS.fail_none hf]
    | some c =>
      have hg : s.getD st.at_ 0 = c := by simp [List.getD, hc]
      by_cases n1 : c = 123
      · subst n1; exact rvalue_obj (rval_all s n) (by omega) hd0 hd1 hs h hf hc
      by_cases n2 : c = 91
      · subst n2; exact rvalue_list (rval_all s n) (by omega) hd0 hd1 hs h hf hc
      by_cases n3 : c = 34
      · subst n3; exact rvalue_text hs h hf hc
      by_cases n4 : c = 116
      · subst n4; exact rvalue_true hs h hf hc
      by_cases n5 : c = 102
      · subst n5; exact rvalue_false hs h hf hc
      by_cases n6 : c = 110
      · subst n6; exact rvalue_null hs h hf hc
      have hv : valP s (n + 1) st = (.num (st.numS s), st.numb s) := by rw [valP_some hf hc, if_neg n1, if_neg n2, if_neg n3, if_neg n4, if_neg n5, if_neg n6]
      exact rvalue_num hs h hf hg n1 n2 n3 n4 n5 n6 ⟨fun _ => hv, fun _ => by rw [hv]⟩
end Go.Proofs.YtkbopeoaoakfnaaDoor

namespace Go.Proofs.YtkbopeoaoakfnaaDoor
open Go.RowKit
/-- What the reference's Parse leaves. -/
def RParsePost (w : World) (s : List UInt8) (e : Ending) (w' : World) : Prop :=
  ∃ (us : List Value) (t : TR), e = .returned (.tuple #[.agg us.toArray, .int .i64 (parseP s).2.1, .int .i64 (parseP s).2.2]) ∧ Below w.heap.size w w' ∧ IsT w' (fun k => w.heap.size ≤ k ∧ k < w'.heap.size) us t ∧ ((parseP s).2.2 = 0 → t = jt (parseP s).1)
theorem results_row_tmp2 {P : Program} {fn : Func} {p u v : Tmp} {ty : TypeId} (h : fn.results = #[.cell p ty, .tmp u, .tmp v]) (tmps : Array Value) (w : World) (b : Nat) (t : TypeId) (cs : Array Value) (fr : Nat × Nat) (d : TypeDesc)
    (hp : tmps.getD p undef = .pointer (some ⟨b, 0, none⟩)) (hg : w.heap[b]? = some (.cells cs t fr))
    (hu : P.underlying ty = some d) (hd : (match d with | .struct _ | .array _ _ => true | _ => false) = true) (hi : (P.info? ty).map (·.size) = some cs.size) :
    (results fn tmps).run P w = .ok (.tuple #[.agg cs, tmps.getD u undef, tmps.getD v undef]) w := by
  have hp' : tmps[p]?.getD undef = .pointer (some ⟨b, 0, none⟩) := by simpa using hp
  simp [results, h, hp', asAddr, run_loadVar_row w b t ty cs fr d hg hu hd hi]
section
variable {w0 w w' wx w1 : World} {g k B : Nat} {d : Int} {lg : Bool} {sb : ByteArray} {s : List UInt8} {st : PS}
theorem RA.back (h1 : Below w.heap.size w w1) (hg : w.heap.size = B ∧ g = B + 1) (h : RA w1 g sb wx k d lg) : Below w.heap.size w wx := by
  have ht := h.turn
  exact h1.trans ⟨ht.os, ht.tape, ht.output, ht.size, fun q hq => ht.block q (Nat.lt_of_lt_of_le hq h1.size) (by omega)⟩
theorem _root_.Go.RowKit.Below.set5 {lo : Nat} {a0 a1 a2 a3 a4 : Value} (h : Below lo w wx) (hB : lo ≤ B) : Below lo w (set5 wx B a0 a1 a2 a3 a4) :=
  ((((h.setCell (p := ⟨B, 0, none⟩) hB a0).setCell (p := ⟨B, 1, none⟩) hB a1).setCell (p := ⟨B, 2, none⟩) hB a2).setCell (p := ⟨B, 3, none⟩) hB a3).setCell (p := ⟨B, 4, none⟩) hB a4
theorem RParsePost.no {k e : Int} (h : parseP s = (.nil, k, e) ∧ e ≠ 0) (hb : Below w.heap.size w w') : RParsePost w s (.returned (.tuple #[.agg #[.int .i64 0, .bool false, .string ⟨#[]⟩, .slice none 0 0, .slice none 0 0], .int .i64 k, .int .i64 e])) w' := by
  refine ⟨_, .mk 0 false [] [] [], by rw [h.1], hb, leaf_isT _ _ 0 false [], fun e0 => ?_⟩
  rw [h.1] at e0
  exact absurd e0 h.2
theorem parseP_end (h : ¬ 8192 < s.length) : parseP s = match (endP s).fault with | some (k, e) => (.nil, k, e) | none => ((bodyP s).1, 0, 0) := by unfold parseP; rw [if_neg h]; rfl
theorem parseP_fault {a : Int × Int} (h : ¬ 8192 < s.length) (hf : (bodyP s).2.fault = some a) : parseP s = (.nil, a.1, a.2) := by
  have h1 : (endP s).fault = some a := by
    unfold endP
    rw [if_neg (by rw [PS.blanks_fault, hf]; simp), PS.blanks_fault, hf]
  rw [parseP_end h, h1]
theorem parseP_more (h : ¬ 8192 < s.length) (hf : (bodyP s).2.fault = none) (hl : ((bodyP s).2.blanks s).at_ < s.length) : parseP s = (.nil, (((bodyP s).2.blanks s).at_ : Int), 2) := by
  have h1 : (endP s).fault = some ((((bodyP s).2.blanks s).at_ : Int), 2) := by
    unfold endP
    rw [if_pos ⟨by rw [PS.blanks_fault]; exact hf, hl⟩, PS.fail_none (by rw [PS.blanks_fault]; exact hf)]
  rw [parseP_end h, h1]
theorem parseP_ok (h : ¬ 8192 < s.length) (hf : (bodyP s).2.fault = none) (hl : ¬ ((bodyP s).2.blanks s).at_ < s.length) : parseP s = ((bodyP s).1, 0, 0) := by
  have h1 : (endP s).fault = none := by
    unfold endP
    rw [if_neg (fun h2 => hl h2.2), PS.blanks_fault, hf]
  rw [parseP_end h, h1]
set_option maxRecDepth 100000 in
set_option maxHeartbeats 4000000 in
theorem rparse_any (w : World) (s : List UInt8) : Calls Tryd.prog 18 #[.string ⟨s.toArray⟩] w (RParsePost w s) := by
  obtain ⟨sb, hs⟩ : ∃ sb : ByteArray, sb = ⟨s.toArray⟩ := ⟨_, rfl⟩
  rw [← hs]
  have hsz : sb.size = s.length := by rw [hs]; simp [ByteArray.size]
  obtain ⟨B, hBe⟩ : ∃ B, B = w.heap.size := ⟨_, rfl⟩
  by_cases hbig : 8192 < s.length
  · have hb : (8192 : Int) < (sb.size : Int) := by omega
    have HPR : Hid (parseP s = (.nil, 0, 6) ∧ (6 : Int) ≠ 0) := ⟨by unfold parseP; rw [if_pos hbig], by decide⟩
    have hbz := (Below.refl w.heap.size w).alloc (Nat.le_refl _) (.cells #[.int .i64 0, .bool false, .string ⟨#[]⟩, .slice none 0 0, .slice none 0 0] 35)
    have hz := heap_alloc_new w (.cells #[.int .i64 0, .bool false, .string ⟨#[]⟩, .slice none 0 0, .slice none 0 0] 35)
    have HBZ := Lib.hid hbz
    have HZ := Lib.hid hz
    clear hbig hs hsz hbz hz
    go_enter Tryd.func18, Tryd.ntmps18
    go_wp2
    refine bodyPost_ret (results_row_tmp2 rfl _ _ w.heap.size _ _ _ _ rfl HZ.out Tryd.underlying35 rfl tree5) rfl ?_
    exact RParsePost.no HPR.out HBZ.out
  · obtain ⟨w1, hw1⟩ : ∃ w1, w1 = (w.alloc (.cells #[.int .i64 0, .bool false, .string ⟨#[]⟩, .slice none 0 0, .slice none 0 0] 35)).alloc (.cells #[.string sb, .int .i64 0, .int .i64 0, .bool false] 88) := ⟨_, rfl⟩
    obtain ⟨g, hg⟩ : ∃ g, g = B + 1 := ⟨_, rfl⟩
    have HB1 : Hid (Below w.heap.size w w1) := by show Below _ _ _; rw [hw1]; exact ((Below.refl _ _).alloc (Nat.le_refl _) _).alloc (by simp) _
    have HG : Hid (w.heap.size = B ∧ g = B + 1) := ⟨hBe.symm, hg⟩
    have HZ : Hid (w1.heap[B]? = some (.cells #[.int .i64 0, .bool false, .string ⟨#[]⟩, .slice none 0 0, .slice none 0 0] 35 (0, 0))) := by show _ = _; rw [hw1, hBe]; exact heap_alloc2_old _ _ _
    have hgo : w1.heap[g]? = some (.cells #[.string sb, .int .i64 0, .int .i64 0, .bool false] 88 (0, 0)) := by rw [hw1, hg, hBe]; exact heap_alloc2_new _ _ _
    have R1 : Hid (RA w1 g sb w1 0 0 false) := ⟨hgo, .refl _ _, lt_of_heap hgo, by omega, Nat.zero_le _⟩
    have HS := Lib.hid hs
    have HSZ := Lib.hid hsz
    have HBe := Lib.hid hBe
    have HBIG := Lib.hid hbig
    have hl8 : (sb.size : Int) ≤ 8192 := by omega
    have hb : ¬ (8192 : Int) < (sb.size : Int) := by omega
    obtain ⟨P, hP⟩ : ∃ P, P = bodyP s := ⟨_, rfl⟩
    have HPE := Lib.hid hP
    have R2 : Hid (∀ w2, RA w1 g sb w2 (0 + runB blankB (s.drop 0)) 0 false → RA w1 g sb w2 (startP s).at_ (startP s).depth false) := fun _ h => h
    have HCV : Hid (∀ w2, RA w1 g sb w2 (0 + runB blankB (s.drop 0)) 0 false → Calls Tryd.prog 35 #[.pointer (some ⟨g, 0, none⟩)] w2 (TrPost w2 w2 g sb P)) := by
      intro w2 h2
      rw [hP]
      exact rval_all s (s.length + 1) g w2 (startP s) sb HS.out (R2.out _ h2).self rfl (by omega) (Int.le_refl _) (by show (0 : Int) ≤ 16; decide)
    clear hs hsz hgo hbig hP
    go_enter Tryd.func18, Tryd.ntmps18
    go_upto_region 4 with (fail)
    rw [← hw1, ← hBe, ← hg]
    clear hw1 hBe hg
    go_upto_region 5 with (go_at_call 34; go_must (refine (rblanks_at R1.out HS.out).mono ?_; rintro e w2 ⟨rfl, h2⟩; have H2 := Lib.hid h2; clear h2))
    by_cases hPf : P.2.fault = none
    · have HPF := Lib.hid hPf
      clear hPf
      go_upto_region 6 with (go_at_call 35; go_must (refine (HCV.out _ H2.out).mono ?_; rintro e w3 ⟨ok, us, t, rfl, hT5, hP5, hok⟩; obtain ⟨rfl, h5⟩ := hP5.true_ HPF.out; obtain rfl := hok rfl; obtain ⟨kx, bx, sx, Ax, nx, cx, Ay, ny, cy, rfl⟩ := hT5.form; have H3 := Lib.hid (RA.lift H2.out h5); have HT3 := Lib.hid hT5; have N3 := Lib.hid h5.turn; clear hT5 hP5 hok h5))
      obtain ⟨w4, hw4⟩ : ∃ w4, w4 = w3.alloc (.cells #[.int .i64 kx, .bool bx, .string ⟨sx.toArray⟩, .slice Ax nx cx, .slice Ay ny cy] 35) := ⟨_, rfl⟩
      have hb4 : Below w3.heap.size w3 w4 := by rw [hw4]; exact (Below.refl _ _).alloc (Nat.le_refl _) _
      have hx4 : w4.heap[w3.heap.size]? = some (.cells #[.int .i64 kx, .bool bx, .string ⟨sx.toArray⟩, .slice Ax nx cx, .slice Ay ny cy] 35 (0, 0)) := by rw [hw4]; exact heap_alloc_new _ _
      rw [← hw4]
      have H4 := Lib.hid (H3.out.below hb4)
      have HX4 := Lib.hid hx4
      have HT4 : Hid (IsT w4 (fun q => B + 1 < q ∧ q < w3.heap.size) [.int .i64 kx, .bool bx, .string ⟨sx.toArray⟩, .slice Ax nx cx, .slice Ay ny cy] (jt P.1)) :=
        HT3.out.keep (fun q hq => hb4.block q hq.2) (fun q hq => ⟨by have h1_ := lt_of_heap H2.out.obj; have h2_ := HG.out; have h3_ : w2.heap.size ≤ q := hq.1; omega, hq.2⟩)
      clear hw4 hb4 hx4
      have HXG : Hid (B + 1 < w3.heap.size) := by show _ < _; have h1_ := lt_of_heap H3.out.obj; have h2_ := HG.out; omega
      obtain ⟨Bk, hBk⟩ : ∃ Bk, Bk = P.2.blanks s := ⟨_, rfl⟩
      have hBa : Bk.at_ = P.2.at_ + runB blankB (s.drop P.2.at_) := by rw [hBk]; rfl
      have HBK := Lib.hid hBk
      have HRB := Lib.hid (rblanks_at H4.out.self HS.out)
      rw [← hBa] at HRB
      clear hBk hBa
      go_upto_region 8 with (go_at_call 34; go_must (refine HRB.out.mono ?_; rintro e w5 ⟨rfl, h5⟩; have H5 := Lib.hid (RA.lift H4.out h5); have N5 := Lib.hid h5.turn; clear h5))
      obtain ⟨c0, c1, c2, c3, fz⟩ := H5.out.cells
      obtain ⟨k0, k1, k2⟩ := H5.out.kI
      by_cases heq : Bk.at_ = s.length
      · have HPR : Hid (parseP s = (P.1, 0, 0)) := by
          show _ = _
          rw [HPE.out]
          exact parseP_ok HBIG.out (by rw [← HPE.out]; exact HPF.out) (by rw [← HPE.out, ← HBK.out, heq]; exact Nat.lt_irrefl _)
        have qe : ((Bk.at_ : Int) == (sb.size : Int)) = true := by have := HSZ.out; rw [this, heq]; simp
        have q1 := heap_turn HZ.out H5.out.turn (by have := HG.out; omega)
        have q2 := heap_turn HX4.out N5.out (by have := HXG.out; have := HG.out; omega)
        have Q1 := Lib.hid q1
        obtain ⟨z0, z1, z2, z3, z4, zf⟩ := row5 q1
        obtain ⟨y0, y1, y2, y3, y4, yf⟩ := row5 q2
        clear q1 q2 heq
        go_wp2
        have h9 := set5_row (a0 := .int .i64 kx) (a1 := .bool bx) (a2 := .string ⟨sx.toArray⟩) (a3 := .slice Ax nx cx) (a4 := .slice Ay ny cy) Q1.out
        refine bodyPost_ret (results_row_tmp2 rfl _ _ B _ _ _ _ rfl h9 Tryd.underlying35 rfl tree5) rfl ?_
        have T9 := set5_turn (w := w5) (b := B) (a0 := .int .i64 kx) (a1 := .bool bx) (a2 := .string ⟨sx.toArray⟩) (a3 := .slice Ax nx cx) (a4 := .slice Ay ny cy)
        have L1 := lt_of_heap HX4.out
        have L2 := N5.out.size
        have L3 := T9.size
        have L4 := HG.out
        refine ⟨[.int .i64 kx, .bool bx, .string ⟨sx.toArray⟩, .slice Ax nx cx, .slice Ay ny cy], jt P.1, by rw [HPR.out]; rfl, (RA.back HB1.out HG.out H5.out).set5 (by omega), HT4.out.keep (fun q hq => ?_) (fun q hq => ⟨by omega, by have := hq.2; exact Nat.lt_of_lt_of_le (Nat.lt_of_lt_of_le (Nat.lt_of_lt_of_le hq.2 (Nat.le_of_lt L1)) L2) L3⟩), fun _ => by rw [HPR.out]⟩
        exact (T9.block q (by omega) (by omega)).trans (N5.out.block q (by omega) (by omega))
      · have hltt : Bk.at_ < s.length := by have := HSZ.out; omega
        have HPR : Hid (parseP s = (.nil, (Bk.at_ : Int), 2) ∧ (2 : Int) ≠ 0) := by
          refine ⟨?_, by decide⟩
          have h_ := parseP_more HBIG.out (by rw [← HPE.out]; exact HPF.out) (by rw [← HPE.out, ← HBK.out]; exact hltt)
          rw [← HPE.out, ← HBK.out] at h_
          exact h_
        have qe : ((Bk.at_ : Int) == (sb.size : Int)) = false := by have := HSZ.out; simp; omega
        clear heq hltt
        go_upto_region 12 with (fail)
        clear c0 c1 c2 c3 fz k0 k1 k2
        refine AnyC.startB (fun w' => w'.heap[g]? = some (.cells #[.string sb, .int .i64 (Bk.at_ : Int), .int .i64 P.2.depth, .bool false] 88 (0, 0))) (by kernel_rfl) rfl ?_
        intro wa hba _
        have BA := Lib.hid ((RA.back HB1.out HG.out H5.out).trans (hba.mono (RA.back HB1.out HG.out H5.out).size))
        have RG := Lib.hid (heap_below H5.out.obj hba)
        have QA := Lib.hid (heap_below (heap_turn HZ.out H5.out.turn (by have := HG.out; omega)) hba)
        clear hba
        apply AnyC.take (i := 0) rfl (by kernel_rfl) rfl
        · intro w' hC K hK
          go_wp2
          exact hK
        · rfl
        apply AnyC.take (i := 1) rfl (by kernel_rfl) rfl
        · intro w' hC K hK
          go_wp2
          exact hK
        · rfl
        apply AnyC.take (i := 2) rfl (by kernel_rfl) rfl
        · intro w' hC K hK
          go_wp2
          exact hK
        · rfl
        apply AnyC.take (i := 3) rfl (by kernel_rfl) rfl
        · intro w' hC K hK
          go_wp2
          exact hK
        · rfl
        apply AnyC.take (i := 4) rfl (by kernel_rfl) rfl
        · intro w' hC K hK
          have cc : w'.cell? ⟨g, 1, none⟩ = some (.int .i64 (Bk.at_ : Int)) := cell_of_row w' g 1 _ _ _ hC
          go_wp2
          exact hK
        · rfl
        obtain ⟨z0, z1, z2, z3, z4, zf⟩ := row5 QA.out
        apply AnyC.solo (i := 5) rfl (by kernel_rfl) RG.out
        go_wp2
        refine ⟨rfl, ?_⟩
        apply AnyC.take (i := 6) rfl (by kernel_rfl) rfl
        · intro w' hC K hK
          go_wp2
          exact hK
        · rfl
        apply AnyC.take (i := 7) rfl (by kernel_rfl) rfl
        · intro w' hC K hK
          go_wp2
          exact hK
        · rfl
        refine AnyC.done (heap_turn RG.out (set5_turn (w := wa) (b := B) (a0 := .int .i64 0) (a1 := .bool false) (a2 := .string ⟨#[]⟩) (a3 := .slice none 0 0) (a4 := .slice none 0 0)) (by have := HG.out; omega)) (by kernel_rfl) ?_
        go_wp2
        have h9 := set5_row (a0 := .int .i64 0) (a1 := .bool false) (a2 := .string ⟨#[]⟩) (a3 := .slice none 0 0) (a4 := .slice none 0 0) QA.out
        refine bodyPost_ret (results_row_tmp2 rfl _ _ B _ _ _ _ rfl h9 Tryd.underlying35 rfl tree5) rfl ?_
        exact RParsePost.no HPR.out (BA.out.set5 (by have := HBe.out; omega))
    · have HPF := Lib.hid hPf
      clear hPf
      go_upto_region 6 with (go_at_call 35; go_must (refine (HCV.out _ H2.out).mono ?_; rintro e w3 ⟨ok, us, t, rfl, hT5, hP5, hok⟩; obtain ⟨rfl, kf, ef, df, e1, e2, h5⟩ := hP5.false_ HPF.out; obtain ⟨kx, bx, sx, Ax, nx, cx, Ay, ny, cy, rfl⟩ := hT5.form; have H3 := Lib.hid (RA.lift H2.out h5); have HE1 := Lib.hid e1; have HE2 := Lib.hid e2; clear hT5 hP5 hok h5 e1 e2))
      obtain ⟨w4, hw4⟩ : ∃ w4, w4 = w3.alloc (.cells #[.int .i64 kx, .bool bx, .string ⟨sx.toArray⟩, .slice Ax nx cx, .slice Ay ny cy] 35) := ⟨_, rfl⟩
      have hb4 : Below w3.heap.size w3 w4 := by rw [hw4]; exact (Below.refl _ _).alloc (Nat.le_refl _) _
      rw [← hw4]
      have H4 := Lib.hid (H3.out.below hb4)
      clear hw4 hb4
      rcases HE2.out with he2 | he2
      · have HPR : Hid (parseP s = (.nil, (kf : Int), 2) ∧ (2 : Int) ≠ 0) := by
          refine ⟨?_, by decide⟩
          have h_ := parseP_fault HBIG.out (by rw [← HPE.out]; exact HE1.out)
          rw [he2] at h_
          exact h_
        subst he2
        have H7 : Hid (RA w1 g sb w4 kf df false) := H4
        clear H4 H3 HE1 HE2
        obtain ⟨c0, c1, c2, c3, fz⟩ := H7.out.cells
        go_upto_region 12 with (fail)
        clear c0 c1 c2 c3 fz
        refine AnyC.startB (fun w' => w'.heap[g]? = some (.cells #[.string sb, .int .i64 (kf : Int), .int .i64 df, .bool false] 88 (0, 0))) (by kernel_rfl) rfl ?_
        intro wa hba _
        have BA := Lib.hid ((RA.back HB1.out HG.out H7.out).trans (hba.mono (RA.back HB1.out HG.out H7.out).size))
        have RG := Lib.hid (heap_below H7.out.obj hba)
        have QA := Lib.hid (heap_below (heap_turn HZ.out H7.out.turn (by have := HG.out; omega)) hba)
        clear hba
        apply AnyC.take (i := 0) rfl (by kernel_rfl) rfl
        · intro w' hC K hK
          go_wp2
          exact hK
        · rfl
        apply AnyC.take (i := 1) rfl (by kernel_rfl) rfl
        · intro w' hC K hK
          go_wp2
          exact hK
        · rfl
        apply AnyC.take (i := 2) rfl (by kernel_rfl) rfl
        · intro w' hC K hK
          go_wp2
          exact hK
        · rfl
        apply AnyC.take (i := 3) rfl (by kernel_rfl) rfl
        · intro w' hC K hK
          go_wp2
          exact hK
        · rfl
        apply AnyC.take (i := 4) rfl (by kernel_rfl) rfl
        · intro w' hC K hK
          have cc : w'.cell? ⟨g, 1, none⟩ = some (.int .i64 (kf : Int)) := cell_of_row w' g 1 _ _ _ hC
          go_wp2
          exact hK
        · rfl
        obtain ⟨z0, z1, z2, z3, z4, zf⟩ := row5 QA.out
        apply AnyC.solo (i := 5) rfl (by kernel_rfl) RG.out
        go_wp2
        refine ⟨rfl, ?_⟩
        apply AnyC.take (i := 6) rfl (by kernel_rfl) rfl
        · intro w' hC K hK
          go_wp2
          exact hK
        · rfl
        apply AnyC.take (i := 7) rfl (by kernel_rfl) rfl
        · intro w' hC K hK
          go_wp2
          exact hK
        · rfl
        refine AnyC.done (heap_turn RG.out (set5_turn (w := wa) (b := B) (a0 := .int .i64 0) (a1 := .bool false) (a2 := .string ⟨#[]⟩) (a3 := .slice none 0 0) (a4 := .slice none 0 0)) (by have := HG.out; omega)) (by kernel_rfl) ?_
        go_wp2
        have h9 := set5_row (a0 := .int .i64 0) (a1 := .bool false) (a2 := .string ⟨#[]⟩) (a3 := .slice none 0 0) (a4 := .slice none 0 0) QA.out
        refine bodyPost_ret (results_row_tmp2 rfl _ _ B _ _ _ _ rfl h9 Tryd.underlying35 rfl tree5) rfl ?_
        exact RParsePost.no HPR.out (BA.out.set5 (by have := HBe.out; omega))
      · have HPR : Hid (parseP s = (.nil, (kf : Int), 6) ∧ (6 : Int) ≠ 0) := by
          refine ⟨?_, by decide⟩
          have h_ := parseP_fault HBIG.out (by rw [← HPE.out]; exact HE1.out)
          rw [he2] at h_
          exact h_
        subst he2
        have H7 : Hid (RA w1 g sb w4 kf df true) := H4
        clear H4 H3 HE1 HE2
        obtain ⟨c0, c1, c2, c3, fz⟩ := H7.out.cells
        go_upto_region 10 with (fail)
        clear c0 c1 c2 c3 fz
        refine AnyC.startB (fun w' => w'.heap[g]? = some (.cells #[.string sb, .int .i64 (kf : Int), .int .i64 df, .bool true] 88 (0, 0))) (by kernel_rfl) rfl ?_
        intro wa hba _
        have BA := Lib.hid ((RA.back HB1.out HG.out H7.out).trans (hba.mono (RA.back HB1.out HG.out H7.out).size))
        have RG := Lib.hid (heap_below H7.out.obj hba)
        have QA := Lib.hid (heap_below (heap_turn HZ.out H7.out.turn (by have := HG.out; omega)) hba)
        clear hba
        apply AnyC.take (i := 0) rfl (by kernel_rfl) rfl
        · intro w' hC K hK
          go_wp2
          exact hK
        · rfl
        apply AnyC.take (i := 1) rfl (by kernel_rfl) rfl
        · intro w' hC K hK
          go_wp2
          exact hK
        · rfl
        apply AnyC.take (i := 2) rfl (by kernel_rfl) rfl
        · intro w' hC K hK
          go_wp2
          exact hK
        · rfl
        apply AnyC.take (i := 3) rfl (by kernel_rfl) rfl
        · intro w' hC K hK
          go_wp2
          exact hK
        · rfl
        apply AnyC.take (i := 4) rfl (by kernel_rfl) rfl
        · intro w' hC K hK
          have cc : w'.cell? ⟨g, 1, none⟩ = some (.int .i64 (kf : Int)) := cell_of_row w' g 1 _ _ _ hC
          go_wp2
          exact hK
        · rfl
        obtain ⟨z0, z1, z2, z3, z4, zf⟩ := row5 QA.out
        apply AnyC.solo (i := 5) rfl (by kernel_rfl) RG.out
        go_wp2
        refine ⟨rfl, ?_⟩
        apply AnyC.take (i := 6) rfl (by kernel_rfl) rfl
        · intro w' hC K hK
          go_wp2
          exact hK
        · rfl
        apply AnyC.take (i := 7) rfl (by kernel_rfl) rfl
        · intro w' hC K hK
          go_wp2
          exact hK
        · rfl
        refine AnyC.done (heap_turn RG.out (set5_turn (w := wa) (b := B) (a0 := .int .i64 0) (a1 := .bool false) (a2 := .string ⟨#[]⟩) (a3 := .slice none 0 0) (a4 := .slice none 0 0)) (by have := HG.out; omega)) (by kernel_rfl) ?_
        go_wp2
        have h9 := set5_row (a0 := .int .i64 0) (a1 := .bool false) (a2 := .string ⟨#[]⟩) (a3 := .slice none 0 0) (a4 := .slice none 0 0) QA.out
        refine bodyPost_ret (results_row_tmp2 rfl _ _ B _ _ _ _ rfl h9 Tryd.underlying35 rfl tree5) rfl ?_
        exact RParsePost.no HPR.out (BA.out.set5 (by have := HBe.out; omega))
end
end Go.Proofs.YtkbopeoaoakfnaaDoor
