/- The texts JT7 of this work, merged by wip/merge.py. No conditions. -/
import Derived.Test.YtkbopeoaoakfnaaDoorQTC
import Derived.Deep.MidRow
namespace Go.Proofs.YtkbopeoaoakfnaaDoor
open Go.RowKit
theorem loadRow_w {P : Program} {ops : Array Oper} {rest : List Oper} {op : Oper} {a : Act} {w : World} {Q : Exit → Act → World → Prop} (hw : Region.wanted op (yielded ops a.tmps) = true) (ty : TypeId) (x : Operand) (ho : op.op = .load ty x)
    (b o : Nat) (hx : a.eval x = .pointer (some ⟨b, o, none⟩)) (cs : Array Value) (d : TypeDesc) (hc : w.rangeAt b o cs.toList)
    (hu : P.underlying ty = some d) (hd : d.isRow = true) (hi : (P.info? ty).map (·.size) = some cs.size)
    (h : wpList P ops Q rest (a.put op.dst (.agg cs)) w) : wpList P ops Q (op :: rest) a w := by
  unfold wpList
  rw [if_pos hw]
  exact .inl (wp_load_mid ty x ho b o hx cs.toList d hc hu hd (by rw [Array.length_toList]; exact hi) (by rw [Array.toArray_toList]; exact h))
mutual
/-- Are there more lists and objects in one another than so many? -/
def deepT : TR → Int → Bool
  | .mk k _ _ _ ps, m => decide (m < 0) || ((k == 4 || k == 5) && (deepTL ps (m - 1) || decide (m < 1)))
def deepTL : List TR → Int → Bool
  | [], _ => false
  | t :: l, m => deepT t m || deepTL l m
end
theorem deepTL_any : ∀ (l : List TR) (m : Int), deepTL l m = l.any (fun t => deepT t m)
  | [], _ => rfl
  | t :: l, m => by rw [deepTL, deepTL_any l m]; rfl
def DP (t : TR) : Prop := ∀ (w : World) (F : Nat → Prop) (us : List Value) (m : Int), IsT w F us t → (∀ k, F k → k < w.heap.size) → Sm t → -10 ≤ m → m ≤ 1000 → Calls Tryd.prog 11 #[.agg us.toArray, .int .i64 m] w fun e w' => e = .returned (.bool (deepT t m)) ∧ Below w.heap.size w w'
section
variable {w : World} {F : Nat → Prop}
set_option maxRecDepth 100000 in
set_option maxHeartbeats 400000 in
theorem deep_neg {k m : Int} {b : Bool} {s : List UInt8} {Ak Ap : Option Addr} {nk ck np cp : Nat} (hm : m < 0) : Calls Tryd.prog 11 #[.agg #[.int .i64 k, .bool b, .string ⟨s.toArray⟩, .slice Ak nk ck, .slice Ap np cp], .int .i64 m] w fun e w' => e = .returned (.bool true) ∧ Below w.heap.size w w' := by
  have HBX : Hid (∀ cs, Below w.heap.size w (w.alloc (.cells cs 25))) := fun cs => (Below.refl _ _).alloc (Nat.le_refl _) _
  go_enter Tryd.func11, Tryd.ntmps11
  go_wp2
  go_ret
  exact ⟨rfl, HBX.out _⟩
set_option maxRecDepth 100000 in
set_option maxHeartbeats 800000 in
theorem deep_4 {m : Int} {b : Bool} {s : List UInt8} {Ak Ap : Option Addr} {nk ck cp : Nat} {uss : List (List Value)} {ps : List TR} (ih : ∀ t ∈ ps, DP t) (hsm : ∀ p ∈ ps, Sm p) (hps : ps.length ≤ 1048576) (hu : uss.length = ps.length) (hrp : Rd w F Ap uss.flatten)
    (he : ∀ (i : Nat) (us : List Value) (t : TR), uss[i]? = some us → ps[i]? = some t → IsT w F us t) (hF : ∀ k, F k → k < w.heap.size) (hm0 : 0 ≤ m) (hm1 : m ≤ 1000) :
    Calls Tryd.prog 11 #[.agg #[.int .i64 4, .bool b, .string ⟨s.toArray⟩, .slice Ak nk ck, .slice Ap ps.length cp], .int .i64 m] w fun e w' => e = .returned (.bool (deepTL ps (m - 1) || decide (m < 1))) ∧ Below w.heap.size w w' := by
  obtain ⟨sb, hsb⟩ : ∃ sb : ByteArray, sb = ⟨s.toArray⟩ := ⟨_, rfl⟩
  rw [← hsb]
  clear hsb
  obtain ⟨T0, hT0⟩ : ∃ T0 : Array Value, T0 = #[.int .i64 4, .bool b, .string sb, .slice Ak nk ck, .slice Ap ps.length cp] := ⟨_, rfl⟩
  obtain ⟨B, hBe⟩ : ∃ B, B = w.heap.size := ⟨_, rfl⟩
  obtain ⟨w3, hw3⟩ : ∃ w3, w3 = w.alloc (.cells #[.int .i64 4, .bool b, .string sb, .slice Ak nk ck, .slice Ap ps.length cp] 25) := ⟨_, rfl⟩
  have h3 : Below B w w3 ∧ w3.heap[B]? = some (.cells T0 25 (0, 0)) ∧ w3.heap.size = B + 1 := by
    rw [hw3, hBe, ← hT0]
    exact ⟨(Below.refl _ _).alloc (Nat.le_refl _) _, heap_alloc_new _ _, by simp⟩
  have IH := Lib.hid ih
  have SMS := Lib.hid hsm
  have HU := Lib.hid hu
  have HE := Lib.hid he
  have HRP := Lib.hid hrp
  have HF := Lib.hid hF
  have HPS := Lib.hid hps
  have H3 := Lib.hid h3
  have HBe := Lib.hid hBe
  have HM := Lib.hid (And.intro hm0 hm1)
  have CELL : Hid (∀ wr, Below (B + 1) w3 wr → wr.cell? ⟨B, 4, none⟩ = some (.slice Ap ps.length cp) ∧ wr.cell? ⟨B, 0, none⟩ = some (.int .i64 4)) := by
    intro wr hb
    have h1 := (hb.block B (by omega)).trans h3.2.1
    rw [hT0] at h1
    exact ⟨cell_of_row wr B 4 _ _ _ h1, cell_of_row wr B 0 _ _ _ h1⟩
  have OLD : Hid (∀ wr, Below (B + 1) w3 wr → ∀ q, q < B → wr.heap[q]? = w.heap[q]?) := fun wr hb q hq => (hb.block q (by omega)).trans (h3.1.block q hq)
  clear hu he hrp hF hps h3 hT0 hm1 ih hsm
  go_enter Tryd.func11, Tryd.ntmps11
  go_wp2
  rw [← hw3, ← hBe]
  clear hw3 hBe
  go_loopw [11] (fun iv wr => ∃ (i : Nat), i ≤ ps.length ∧ iv = .int .i64 (i : Int) ∧ Below (B + 1) w3 wr ∧ (∀ (j : Nat) (x : TR), j < i → ps[j]? = some x → deepT x (m - 1) = false)) (fun iv _ => ps.length - (intOf iv).toNat)
  case atStart => exact ⟨0, Nat.zero_le _, rfl, Below.refl _ _, fun j x h => by omega⟩
  case round =>
    obtain ⟨i, hi, rfl, hB, hno⟩ := hrel
    obtain ⟨f4, f0⟩ := CELL.out wr hB
    by_cases hlt : i < ps.length
    · have hiI : (i : Int) < (ps.length : Int) := by omega
      have HI3 : Hid ((i : Int) + 1 ≤ 1048576) := by show _ ≤ _; have := HPS.out; omega
      have hd : decide (i < ps.length) = true := by simp; omega
      obtain ⟨t, ht⟩ : ∃ t, ps[i]? = some t := ⟨_, List.getElem?_eq_getElem hlt⟩
      obtain ⟨us, b0, off, rfl, hb0, hus, hist, h5, hcs⟩ := HRP.out.row HU.out HE.out ht
      have hB0 : b0 < B := by rw [HBe.out]; exact HF.out b0 hb0
      have hrow : wr.rangeAt b0 (off + i * 5) us.toArray.toList := by
        intro j x hx
        have hx' : us[j]? = some x := hx
        rw [World.cell?_of_block (w := w) (a := ⟨b0, off + i * 5 + j, none⟩) (OLD.out wr hB b0 hB0)]
        exact hcs j x hx'
      have hz5 : (Tryd.prog.info? 25).map (·.size) = some us.toArray.size := by
        have : us.toArray.size = 5 := by simpa using h5
        rw [this]
        exact lawtree5
      have HB := Lib.hid hB
      have HLT := Lib.hid hlt
      have HROW := Lib.hid hrow
      have HTI := Lib.hid ht
      have HSZ : Hid (B + 1 ≤ wr.heap.size) := by show _ ≤ _; have h1_ := H3.out.2.2; have h2_ := hB.size; omega
      have HCALL := Lib.hid (IH.out t (List.mem_of_getElem? ht) wr F us (m - 1) (hist.keep (fun q hq => OLD.out wr hB q (by rw [HBe.out]; exact HF.out q hq)) (fun q hq => hq)) (fun q hq => by have h1_ := HF.out q hq; have h2_ := HSZ.out; have h3_ := HBe.out; omega) (SMS.out t (List.mem_of_getElem? ht)) (by have := HM.out; omega) (by have := HM.out; omega))
      have HN := Lib.hid hno
      have hm1 := HM.out.2
      clear hB hlt hrow hb0 hus h5 hcs hB0 ht hi hist hno
      obtain ⟨D, hD⟩ : ∃ D, D = deepT t (m - 1) := ⟨_, rfl⟩
      rw [← hD] at HCALL
      have HD := Lib.hid hD
      clear hD
      cases D
      · go_wp2_with (first
          | (refine loadRow_w rfl 25 _ rfl b0 (off + i * 5) rfl us.toArray _ (by with_reducible exact HROW.out) Tryd.underlying25 rfl (by with_reducible exact hz5) ?_)
          | (go_at_call 11; go_must (refine HCALL.out.mono ?_; rintro e w2 ⟨rfl, hb2⟩; have hi3 := HI3.out)))
        go_roundw
        case rel =>
          refine ⟨i + 1, HLT.out, by go_num, HB.out.trans (hb2.mono HSZ.out), fun j x hj hx => ?_⟩
          rcases Nat.lt_or_ge j i with h | h
          · exact HN.out j x h hx
          · obtain rfl : j = i := by omega
            rw [HTI.out] at hx
            obtain rfl := Option.some.inj hx
            exact HD.out.symm
        case measure => have := HLT.out; simp [intOf]; omega
      · have HRES : Hid (deepTL ps (m - 1) = true) := by
          show _ = _
          rw [deepTL_any]
          exact List.any_eq_true.2 ⟨t, List.mem_of_getElem? HTI.out, HD.out.symm⟩
        go_wp2_with (first
          | (refine loadRow_w rfl 25 _ rfl b0 (off + i * 5) rfl us.toArray _ (by with_reducible exact HROW.out) Tryd.underlying25 rfl (by with_reducible exact hz5) ?_)
          | (go_at_call 11; go_must (refine HCALL.out.mono ?_; rintro e w2 ⟨rfl, hb2⟩)))
        go_ret
        exact ⟨by rw [HRES.out]; rfl, by rw [← HBe.out]; exact H3.out.1.trans ((HB.out.trans (hb2.mono HSZ.out)).mono (by omega))⟩
    · obtain rfl : i = ps.length := by omega
      have hd : decide (ps.length < ps.length) = false := by simp
      have HRES : Hid (deepTL ps (m - 1) = false) := by
        show _ = _
        rw [deepTL_any]
        refine List.any_eq_false.2 (fun x hx => ?_)
        obtain ⟨j, hj⟩ := List.mem_iff_getElem?.1 hx
        have := hno j x (List.getElem?_eq_some_iff.1 hj).1 hj
        simp [this]
      have HB := Lib.hid hB
      clear hB hi hlt hno
      go_wp2
      go_ret
      exact ⟨by rw [HRES.out]; rfl, by rw [← HBe.out]; exact H3.out.1.trans (HB.out.mono (by omega))⟩

set_option maxRecDepth 100000 in
set_option maxHeartbeats 800000 in
theorem deep_5 {m : Int} {b : Bool} {s : List UInt8} {Ak Ap : Option Addr} {nk ck cp : Nat} {uss : List (List Value)} {ps : List TR} (ih : ∀ t ∈ ps, DP t) (hsm : ∀ p ∈ ps, Sm p) (hps : ps.length ≤ 1048576) (hu : uss.length = ps.length) (hrp : Rd w F Ap uss.flatten)
    (he : ∀ (i : Nat) (us : List Value) (t : TR), uss[i]? = some us → ps[i]? = some t → IsT w F us t) (hF : ∀ k, F k → k < w.heap.size) (hm0 : 0 ≤ m) (hm1 : m ≤ 1000) :
    Calls Tryd.prog 11 #[.agg #[.int .i64 5, .bool b, .string ⟨s.toArray⟩, .slice Ak nk ck, .slice Ap ps.length cp], .int .i64 m] w fun e w' => e = .returned (.bool (deepTL ps (m - 1) || decide (m < 1))) ∧ Below w.heap.size w w' := by
  obtain ⟨sb, hsb⟩ : ∃ sb : ByteArray, sb = ⟨s.toArray⟩ := ⟨_, rfl⟩
  rw [← hsb]
  clear hsb
  obtain ⟨T0, hT0⟩ : ∃ T0 : Array Value, T0 = #[.int .i64 5, .bool b, .string sb, .slice Ak nk ck, .slice Ap ps.length cp] := ⟨_, rfl⟩
  obtain ⟨B, hBe⟩ : ∃ B, B = w.heap.size := ⟨_, rfl⟩
  obtain ⟨w3, hw3⟩ : ∃ w3, w3 = w.alloc (.cells #[.int .i64 5, .bool b, .string sb, .slice Ak nk ck, .slice Ap ps.length cp] 25) := ⟨_, rfl⟩
  have h3 : Below B w w3 ∧ w3.heap[B]? = some (.cells T0 25 (0, 0)) ∧ w3.heap.size = B + 1 := by
    rw [hw3, hBe, ← hT0]
    exact ⟨(Below.refl _ _).alloc (Nat.le_refl _) _, heap_alloc_new _ _, by simp⟩
  have IH := Lib.hid ih
  have SMS := Lib.hid hsm
  have HU := Lib.hid hu
  have HE := Lib.hid he
  have HRP := Lib.hid hrp
  have HF := Lib.hid hF
  have HPS := Lib.hid hps
  have H3 := Lib.hid h3
  have HBe := Lib.hid hBe
  have HM := Lib.hid (And.intro hm0 hm1)
  have CELL : Hid (∀ wr, Below (B + 1) w3 wr → wr.cell? ⟨B, 4, none⟩ = some (.slice Ap ps.length cp) ∧ wr.cell? ⟨B, 0, none⟩ = some (.int .i64 5)) := by
    intro wr hb
    have h1 := (hb.block B (by omega)).trans h3.2.1
    rw [hT0] at h1
    exact ⟨cell_of_row wr B 4 _ _ _ h1, cell_of_row wr B 0 _ _ _ h1⟩
  have OLD : Hid (∀ wr, Below (B + 1) w3 wr → ∀ q, q < B → wr.heap[q]? = w.heap[q]?) := fun wr hb q hq => (hb.block q (by omega)).trans (h3.1.block q hq)
  clear hu he hrp hF hps h3 hT0 hm1 ih hsm
  go_enter Tryd.func11, Tryd.ntmps11
  go_wp2
  rw [← hw3, ← hBe]
  clear hw3 hBe
  go_loopw [11] (fun iv wr => ∃ (i : Nat), i ≤ ps.length ∧ iv = .int .i64 (i : Int) ∧ Below (B + 1) w3 wr ∧ (∀ (j : Nat) (x : TR), j < i → ps[j]? = some x → deepT x (m - 1) = false)) (fun iv _ => ps.length - (intOf iv).toNat)
  case atStart => exact ⟨0, Nat.zero_le _, rfl, Below.refl _ _, fun j x h => by omega⟩
  case round =>
    obtain ⟨i, hi, rfl, hB, hno⟩ := hrel
    obtain ⟨f4, f0⟩ := CELL.out wr hB
    by_cases hlt : i < ps.length
    · have hiI : (i : Int) < (ps.length : Int) := by omega
      have HI3 : Hid ((i : Int) + 1 ≤ 1048576) := by show _ ≤ _; have := HPS.out; omega
      have hd : decide (i < ps.length) = true := by simp; omega
      obtain ⟨t, ht⟩ : ∃ t, ps[i]? = some t := ⟨_, List.getElem?_eq_getElem hlt⟩
      obtain ⟨us, b0, off, rfl, hb0, hus, hist, h5, hcs⟩ := HRP.out.row HU.out HE.out ht
      have hB0 : b0 < B := by rw [HBe.out]; exact HF.out b0 hb0
      have hrow : wr.rangeAt b0 (off + i * 5) us.toArray.toList := by
        intro j x hx
        have hx' : us[j]? = some x := hx
        rw [World.cell?_of_block (w := w) (a := ⟨b0, off + i * 5 + j, none⟩) (OLD.out wr hB b0 hB0)]
        exact hcs j x hx'
      have hz5 : (Tryd.prog.info? 25).map (·.size) = some us.toArray.size := by
        have : us.toArray.size = 5 := by simpa using h5
        rw [this]
        exact lawtree5
      have HB := Lib.hid hB
      have HLT := Lib.hid hlt
      have HROW := Lib.hid hrow
      have HTI := Lib.hid ht
      have HSZ : Hid (B + 1 ≤ wr.heap.size) := by show _ ≤ _; have h1_ := H3.out.2.2; have h2_ := hB.size; omega
      have HCALL := Lib.hid (IH.out t (List.mem_of_getElem? ht) wr F us (m - 1) (hist.keep (fun q hq => OLD.out wr hB q (by rw [HBe.out]; exact HF.out q hq)) (fun q hq => hq)) (fun q hq => by have h1_ := HF.out q hq; have h2_ := HSZ.out; have h3_ := HBe.out; omega) (SMS.out t (List.mem_of_getElem? ht)) (by have := HM.out; omega) (by have := HM.out; omega))
      have HN := Lib.hid hno
      have hm1 := HM.out.2
      clear hB hlt hrow hb0 hus h5 hcs hB0 ht hi hist hno
      obtain ⟨D, hD⟩ : ∃ D, D = deepT t (m - 1) := ⟨_, rfl⟩
      rw [← hD] at HCALL
      have HD := Lib.hid hD
      clear hD
      cases D
      · go_wp2_with (first
          | (refine loadRow_w rfl 25 _ rfl b0 (off + i * 5) rfl us.toArray _ (by with_reducible exact HROW.out) Tryd.underlying25 rfl (by with_reducible exact hz5) ?_)
          | (go_at_call 11; go_must (refine HCALL.out.mono ?_; rintro e w2 ⟨rfl, hb2⟩; have hi3 := HI3.out)))
        go_roundw
        case rel =>
          refine ⟨i + 1, HLT.out, by go_num, HB.out.trans (hb2.mono HSZ.out), fun j x hj hx => ?_⟩
          rcases Nat.lt_or_ge j i with h | h
          · exact HN.out j x h hx
          · obtain rfl : j = i := by omega
            rw [HTI.out] at hx
            obtain rfl := Option.some.inj hx
            exact HD.out.symm
        case measure => have := HLT.out; simp [intOf]; omega
      · have HRES : Hid (deepTL ps (m - 1) = true) := by
          show _ = _
          rw [deepTL_any]
          exact List.any_eq_true.2 ⟨t, List.mem_of_getElem? HTI.out, HD.out.symm⟩
        go_wp2_with (first
          | (refine loadRow_w rfl 25 _ rfl b0 (off + i * 5) rfl us.toArray _ (by with_reducible exact HROW.out) Tryd.underlying25 rfl (by with_reducible exact hz5) ?_)
          | (go_at_call 11; go_must (refine HCALL.out.mono ?_; rintro e w2 ⟨rfl, hb2⟩)))
        go_ret
        exact ⟨by rw [HRES.out]; rfl, by rw [← HBe.out]; exact H3.out.1.trans ((HB.out.trans (hb2.mono HSZ.out)).mono (by omega))⟩
    · obtain rfl : i = ps.length := by omega
      have hd : decide (ps.length < ps.length) = false := by simp
      have HRES : Hid (deepTL ps (m - 1) = false) := by
        show _ = _
        rw [deepTL_any]
        refine List.any_eq_false.2 (fun x hx => ?_)
        obtain ⟨j, hj⟩ := List.mem_iff_getElem?.1 hx
        have := hno j x (List.getElem?_eq_some_iff.1 hj).1 hj
        simp [this]
      have HB := Lib.hid hB
      clear hB hi hlt hno
      go_wp2
      go_ret
      exact ⟨by rw [HRES.out]; rfl, by rw [← HBe.out]; exact H3.out.1.trans (HB.out.mono (by omega))⟩

set_option maxRecDepth 100000 in
set_option maxHeartbeats 800000 in
theorem deep_other {k m : Int} {b : Bool} {s : List UInt8} {Ak Ap : Option Addr} {nk ck cp : Nat} {uss : List (List Value)} {ps : List TR} (h4 : k ≠ 4) (h5 : k ≠ 5) (hps : ps.length ≤ 1048576) (hu : uss.length = ps.length) (hrp : Rd w F Ap uss.flatten)
    (he : ∀ (i : Nat) (us : List Value) (t : TR), uss[i]? = some us → ps[i]? = some t → IsT w F us t) (hF : ∀ k, F k → k < w.heap.size) (hm0 : 0 ≤ m) (hm1 : m ≤ 1000) :
    Calls Tryd.prog 11 #[.agg #[.int .i64 k, .bool b, .string ⟨s.toArray⟩, .slice Ak nk ck, .slice Ap ps.length cp], .int .i64 m] w fun e w' => e = .returned (.bool false) ∧ Below w.heap.size w w' := by
  obtain ⟨sb, hsb⟩ : ∃ sb : ByteArray, sb = ⟨s.toArray⟩ := ⟨_, rfl⟩
  rw [← hsb]
  clear hsb
  have q4 : (k == 4) = false := by simpa using h4
  have q5 : (k == 5) = false := by simpa using h5
  clear h4 h5
  obtain ⟨T0, hT0⟩ : ∃ T0 : Array Value, T0 = #[.int .i64 k, .bool b, .string sb, .slice Ak nk ck, .slice Ap ps.length cp] := ⟨_, rfl⟩
  obtain ⟨B, hBe⟩ : ∃ B, B = w.heap.size := ⟨_, rfl⟩
  obtain ⟨w3, hw3⟩ : ∃ w3, w3 = w.alloc (.cells #[.int .i64 k, .bool b, .string sb, .slice Ak nk ck, .slice Ap ps.length cp] 25) := ⟨_, rfl⟩
  have h3 : Below B w w3 ∧ w3.heap[B]? = some (.cells T0 25 (0, 0)) ∧ w3.heap.size = B + 1 := by
    rw [hw3, hBe, ← hT0]
    exact ⟨(Below.refl _ _).alloc (Nat.le_refl _) _, heap_alloc_new _ _, by simp⟩
  skip
  have HU := Lib.hid hu
  have HE := Lib.hid he
  have HRP := Lib.hid hrp
  have HF := Lib.hid hF
  have HPS := Lib.hid hps
  have H3 := Lib.hid h3
  have HBe := Lib.hid hBe
  have HM := Lib.hid (And.intro hm0 hm1)
  have CELL : Hid (∀ wr, Below (B + 1) w3 wr → wr.cell? ⟨B, 4, none⟩ = some (.slice Ap ps.length cp) ∧ wr.cell? ⟨B, 0, none⟩ = some (.int .i64 k)) := by
    intro wr hb
    have h1 := (hb.block B (by omega)).trans h3.2.1
    rw [hT0] at h1
    exact ⟨cell_of_row wr B 4 _ _ _ h1, cell_of_row wr B 0 _ _ _ h1⟩
  have OLD : Hid (∀ wr, Below (B + 1) w3 wr → ∀ q, q < B → wr.heap[q]? = w.heap[q]?) := fun wr hb q hq => (hb.block q (by omega)).trans (h3.1.block q hq)
  clear hu he hrp hF hps h3 hT0 hm1 
  go_enter Tryd.func11, Tryd.ntmps11
  go_wp2
  rw [← hw3, ← hBe]
  clear hw3 hBe
  go_loopw [11] (fun iv wr => ∃ (i : Nat), i ≤ ps.length ∧ iv = .int .i64 (i : Int) ∧ Below (B + 1) w3 wr) (fun iv _ => ps.length - (intOf iv).toNat)
  case atStart => exact ⟨0, Nat.zero_le _, rfl, Below.refl _ _⟩
  case round =>
    obtain ⟨i, hi, rfl, hB⟩ := hrel
    obtain ⟨f4, f0⟩ := CELL.out wr hB
    by_cases hlt : i < ps.length
    · have hiI : (i : Int) < (ps.length : Int) := by omega
      have HI3 : Hid ((i : Int) + 1 ≤ 1048576) := by show _ ≤ _; have := HPS.out; omega
      have hd : decide (i < ps.length) = true := by simp; omega
      have HB := Lib.hid hB
      have HLT := Lib.hid hlt
      have hi3 : (i : Int) + 1 ≤ 2000000 := by have := HI3.out; omega
      clear hB hi hlt
      go_wp2
      go_roundw
      case rel => exact ⟨i + 1, HLT.out, by go_num, HB.out⟩
      case measure => have := HLT.out; simp [intOf]; omega
    · obtain rfl : i = ps.length := by omega
      have hd : decide (ps.length < ps.length) = false := by simp
      have HB := Lib.hid hB
      clear hB hi hlt
      go_wp2
      go_ret
      exact ⟨rfl, by rw [← HBe.out]; exact H3.out.1.trans (HB.out.mono (by omega))⟩

end
theorem dp_all : ∀ (n : Nat) (t : TR), SizeOf.sizeOf t ≤ n → DP t
  | 0, t, hn => by cases t; simp at hn
  | n + 1, t, hn => by
    intro w F us m hv hF hsm hm0 hm1
    cases hv with
    | mk k b s Ak ck ks Ap cp uss ps hu hk hp he =>
      cases hsm with
      | mk _ _ _ _ _ hps hsub =>
        have hs : ∀ p ∈ ps, DP p := fun p hm => dp_all n p (by
          have := List.sizeOf_lt_of_mem hm
          simp at hn
          omega)
        rw [deepT]
        by_cases hneg : m < 0
        · rw [show decide (m < 0) = true by simpa using hneg, Bool.true_or]; exact deep_neg hneg
        rw [show decide (m < 0) = false by simpa using hneg, Bool.false_or]
        by_cases k4 : k = 4
        · subst k4; exact deep_4 hs hsub hps hu hp he hF (by omega) hm1
        by_cases k5 : k = 5
        · subst k5; exact deep_5 hs hsub hps hu hp he hF (by omega) hm1
        rw [show (k == 4) = false by simpa using k4, show (k == 5) = false by simpa using k5, Bool.false_or, Bool.false_and]
        exact deep_other k4 k5 hps hu hp he hF (by omega) hm1
/-- The law's deep. -/
theorem deep_any {w : World} {F : Nat → Prop} {us : List Value} {t : TR} {m : Int} (h : IsT w F us t) (hF : ∀ k, F k → k < w.heap.size) (hs : Sm t) (h0 : -10 ≤ m) (h1 : m ≤ 1000) : Calls Tryd.prog 11 #[.agg us.toArray, .int .i64 m] w fun e w' => e = .returned (.bool (deepT t m)) ∧ Below w.heap.size w w' :=
  dp_all _ t (Nat.le_refl _) w F us m h hF hs h0 h1
end Go.Proofs.YtkbopeoaoakfnaaDoor
