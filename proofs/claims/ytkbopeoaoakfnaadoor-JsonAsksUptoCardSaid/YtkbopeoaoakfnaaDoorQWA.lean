/- The texts JTA JW1 of this work, merged by wip/merge.py. No conditions. -/
import Derived.Test.YtkbopeoaoakfnaaDoorQJG
import Derived.Test.YtkbopeoaoakfnaaDoorQP
import Derived.Test.YtkbopeoaoakfnaaDoorQJD
import Derived.Laws.RangeAny
namespace Go.Proofs.YtkbopeoaoakfnaaDoor
open Go.RowKit
theorem zero_Bool (w : World) : (zeroValue 71).run Tryd.prog w = .ok (.bool false) w := by kernel_rfl
theorem is_Bool (v : Value) (w : World) : (Instr.typeAssert (.iface 71 v) 30 71 true).run Tryd.prog w = .ok (.tuple #[v, .bool true]) w := by
  simp [Instr.typeAssert, run_underlying Tryd.underlying71]
theorem no_Bool {t : TypeId} (h : t ≠ 71) (v : Value) (w : World) : (Instr.typeAssert (.iface t v) 30 71 true).run Tryd.prog w = .ok (.tuple #[.bool false, .bool false]) w := by
  simp [Instr.typeAssert, run_underlying Tryd.underlying71, h, zero_Bool w]
theorem nil_Bool (w : World) : (Instr.typeAssert .nilIface 30 71 true).run Tryd.prog w = .ok (.tuple #[.bool false, .bool false]) w := by
  simp [Instr.typeAssert, run_underlying Tryd.underlying71, zero_Bool w]
theorem zero_Number (w : World) : (zeroValue 61).run Tryd.prog w = .ok (.string ⟨#[]⟩) w := by kernel_rfl
theorem is_Number (v : Value) (w : World) : (Instr.typeAssert (.iface 61 v) 30 61 true).run Tryd.prog w = .ok (.tuple #[v, .bool true]) w := by
  simp [Instr.typeAssert, run_underlying Tryd.underlying61]
theorem no_Number {t : TypeId} (h : t ≠ 61) (v : Value) (w : World) : (Instr.typeAssert (.iface t v) 30 61 true).run Tryd.prog w = .ok (.tuple #[.string ⟨#[]⟩, .bool false]) w := by
  simp [Instr.typeAssert, run_underlying Tryd.underlying61, h, zero_Number w]
theorem nil_Number (w : World) : (Instr.typeAssert .nilIface 30 61 true).run Tryd.prog w = .ok (.tuple #[.string ⟨#[]⟩, .bool false]) w := by
  simp [Instr.typeAssert, run_underlying Tryd.underlying61, zero_Number w]
theorem zero_Text (w : World) : (zeroValue 41).run Tryd.prog w = .ok (.string ⟨#[]⟩) w := by kernel_rfl
theorem is_Text (v : Value) (w : World) : (Instr.typeAssert (.iface 41 v) 30 41 true).run Tryd.prog w = .ok (.tuple #[v, .bool true]) w := by
  simp [Instr.typeAssert, run_underlying Tryd.underlying41]
theorem no_Text {t : TypeId} (h : t ≠ 41) (v : Value) (w : World) : (Instr.typeAssert (.iface t v) 30 41 true).run Tryd.prog w = .ok (.tuple #[.string ⟨#[]⟩, .bool false]) w := by
  simp [Instr.typeAssert, run_underlying Tryd.underlying41, h, zero_Text w]
theorem nil_Text (w : World) : (Instr.typeAssert .nilIface 30 41 true).run Tryd.prog w = .ok (.tuple #[.string ⟨#[]⟩, .bool false]) w := by
  simp [Instr.typeAssert, run_underlying Tryd.underlying41, zero_Text w]
theorem zero_List (w : World) : (zeroValue 49).run Tryd.prog w = .ok (.slice none 0 0) w := by kernel_rfl
theorem is_List (v : Value) (w : World) : (Instr.typeAssert (.iface 49 v) 30 49 true).run Tryd.prog w = .ok (.tuple #[v, .bool true]) w := by
  simp [Instr.typeAssert, run_underlying Tryd.underlying49]
theorem no_List {t : TypeId} (h : t ≠ 49) (v : Value) (w : World) : (Instr.typeAssert (.iface t v) 30 49 true).run Tryd.prog w = .ok (.tuple #[.slice none 0 0, .bool false]) w := by
  simp [Instr.typeAssert, run_underlying Tryd.underlying49, h, zero_List w]
theorem nil_List (w : World) : (Instr.typeAssert .nilIface 30 49 true).run Tryd.prog w = .ok (.tuple #[.slice none 0 0, .bool false]) w := by
  simp [Instr.typeAssert, run_underlying Tryd.underlying49, zero_List w]
theorem zero_Object (w : World) : (zeroValue 73).run Tryd.prog w = .ok (.slice none 0 0) w := by kernel_rfl
theorem is_Object (v : Value) (w : World) : (Instr.typeAssert (.iface 73 v) 30 73 true).run Tryd.prog w = .ok (.tuple #[v, .bool true]) w := by
  simp [Instr.typeAssert, run_underlying Tryd.underlying73]
theorem no_Object {t : TypeId} (h : t ≠ 73) (v : Value) (w : World) : (Instr.typeAssert (.iface t v) 30 73 true).run Tryd.prog w = .ok (.tuple #[.slice none 0 0, .bool false]) w := by
  simp [Instr.typeAssert, run_underlying Tryd.underlying73, h, zero_Object w]
theorem nil_Object (w : World) : (Instr.typeAssert .nilIface 30 73 true).run Tryd.prog w = .ok (.tuple #[.slice none 0 0, .bool false]) w := by
  simp [Instr.typeAssert, run_underlying Tryd.underlying73, zero_Object w]
theorem zero_Null (w : World) : (zeroValue 70).run Tryd.prog w = .ok (.agg #[]) w := by kernel_rfl
theorem is_Null (v : Value) (w : World) : (Instr.typeAssert (.iface 70 v) 30 70 true).run Tryd.prog w = .ok (.tuple #[v, .bool true]) w := by
  simp [Instr.typeAssert, run_underlying Tryd.underlying70]
theorem no_Null {t : TypeId} (h : t ≠ 70) (v : Value) (w : World) : (Instr.typeAssert (.iface t v) 30 70 true).run Tryd.prog w = .ok (.tuple #[.agg #[], .bool false]) w := by
  simp [Instr.typeAssert, run_underlying Tryd.underlying70, h, zero_Null w]
theorem nil_Null (w : World) : (Instr.typeAssert .nilIface 30 70 true).run Tryd.prog w = .ok (.tuple #[.agg #[], .bool false]) w := by
  simp [Instr.typeAssert, run_underlying Tryd.underlying70, zero_Null w]
end Go.Proofs.YtkbopeoaoakfnaaDoor

namespace Go.Proofs.YtkbopeoaoakfnaaDoor
open Go.RowKit
theorem others_iter {w wr : World} {k : Nat} {e : TypeId} {b : Option Nat} {q : ByteArray} {pos : Nat} (h : Lib.OthersKept e b w wr) (hk : w.heap.size ≤ k) : Lib.OthersKept e b w (wr.iterAt k q pos) := by
  intro i o hi hb ho
  have hlt : i < w.heap.size := lt_of_heap hi
  exact (Lib.iterAt_other wr k i q pos (by omega)).trans (h i o hi hb ho)
theorem and15 : ∀ r : Nat, r < 32 → bits .and .i32 (r : Int) 15 = ((r % 16 : Nat) : Int) := by decide
theorem Bd.iterAt {w : World} {B b k : Nat} {l : List UInt8} {q : ByteArray} {pos : Nat} (h : Bd w B b l) (hk : w.heap[k]? = some (.stringIter q pos)) (pos' : Nat) : Bd (w.iterAt k q pos') B b l := h.elim (fun x => .inl (x.iterAt hk pos')) (fun x => .inr (x.iterAt hk pos'))
theorem Bd.alloc {w : World} {B b : Nat} {l : List UInt8} (h : Bd w B b l) (o : Obj) : Bd (w.alloc o) B b l := h.elim (fun x => .inl (x.alloc o)) (fun x => .inr (x.alloc o))
theorem BPost.trans {B b : Nat} {l l' : List UInt8} {w w1 w2 : World} (h : BPost B b l w w1) (h2 : BPost B b l' w1 w2) : BPost B b l' w w2 := ⟨h2.1, h.2.1.trans h2.2.1, h.2.2.trans h2.2.2⟩
theorem hexC_get {n : Nat} (h : n < 16) : ∀ h0 : n < (⟨#[48, 49, 50, 51, 52, 53, 54, 55, 56, 57, 97, 98, 99, 100, 101, 102]⟩ : ByteArray).size, ((⟨#[48, 49, 50, 51, 52, 53, 54, 55, 56, 57, 97, 98, 99, 100, 101, 102]⟩ : ByteArray)[n]'h0) = hexC n := by
  intro h0
  have : ∀ n : Fin 16, ((⟨#[48, 49, 50, 51, 52, 53, 54, 55, 56, 57, 97, 98, 99, 100, 101, 102]⟩ : ByteArray)[n.1]'n.2) = hexC n.1 := by decide
  exact this ⟨n, h⟩
set_option maxRecDepth 100000 in
set_option maxHeartbeats 800000 in
theorem quote_any {w : World} {B b : Nat} {l : List UInt8} (s : List UInt8) (h : Bd w B b l) (hlen : l.length + (quoteB s).length ≤ 140737488000000) : Calls Tryd.prog 52 #[.pointer (some ⟨b, 0, none⟩), .string ⟨s.toArray⟩] w fun e w' => e = .returned (.tuple #[]) ∧ BPost B b (l ++ quoteB s) w w' := by
  have hql : (quoteB s).length = (quoteD s.length s).length + 2 := by unfold quoteB; simp
  have hb0 := h.lt
  have w34 := writeByte_any (c := 34) h (by omega) (by omega)
  have HW := Lib.hid w34
  have HB := Lib.hid (show B ≤ w.heap.size by omega)
  have HLEN := Lib.hid (show (l ++ [34]).length + (quoteD s.length s).length + 1 ≤ 140737488000000 by rw [List.length_append]; simp; omega)
  obtain ⟨sb, hsb⟩ : ∃ sb : ByteArray, sb = ⟨s.toArray⟩ := ⟨_, rfl⟩
  have hsz : sb.size = s.length := by rw [hsb]; simp [ByteArray.size]
  have HSZ := Lib.hid hsz
  have HSB := Lib.hid hsb
  rw [← hsb]
  clear h hlen hql hb0 w34 hsz hsb
  go_enter Tryd.func52, Tryd.ntmps52
  go_wp2_with (go_at_call 53; go_must (refine HW.out.mono ?_; rintro e w1 ⟨rfl, p1⟩))
  obtain ⟨it, hit0⟩ : ∃ it, it = w1.heap.size := ⟨_, rfl⟩
  rw [← hit0]
  have HIT := Lib.hid hit0
  have HSIZE := Lib.hid p1.2.1.size
  clear hit0
  go_loopw [] (fun wr => ∃ (pos : Nat) (acc : List UInt8), pos ≤ s.length ∧ BPost B b acc w wr ∧ wr.heap[it]? = some (.stringIter sb pos) ∧ acc ++ quoteD (s.drop pos).length (s.drop pos) = (l ++ [34]) ++ quoteD s.length s) (fun wr => s.length - wr.iterPos it)
  case atStart =>
    have hbw := below_iter w1 sb 0
    refine ⟨0, l ++ [34], Nat.zero_le _, ⟨p1.1.alloc _, p1.2.1.trans (hbw.mono (by have h1_ := HB.out; have h2_ := HSIZE.out; omega)), p1.2.2.alloc _⟩, by rw [HIT.out]; exact World.iter_heap w1 sb 0, by simp⟩
  case round =>
    obtain ⟨pos, acc, hps, hP, hit, hacc⟩ := hrel
    by_cases hp : pos < s.length
    · have hne : s.drop pos ≠ [] := by
        intro h0
        have := congrArg List.length h0
        rw [List.length_drop] at this
        simp at this
        omega
      have hnx : ∀ ty, (Instr.next (.pointer (some ⟨it, 0, none⟩)) true ty).run Tryd.prog wr = _ := fun ty => Lib.run_next_any_at wr it sb pos ty hit (by rw [HSZ.out]; exact hp)
      have hdec : Utf8.decode sb pos = Lib.decodeL (s.drop pos) := by
        rw [← Lib.decodeL_drop, HSB.out]
      obtain ⟨r, wd, hrw⟩ : ∃ r wd, Lib.decodeL (s.drop pos) = (r, wd) := ⟨_, _, rfl⟩
      have hstep := quoteD_step (s.drop pos) hne
      have hwd := Lib.decodeL_width (s.drop pos)
      have hwl := Lib.decodeL_le (s.drop pos) hne
      have hr1 := Lib.decodeL_rune (s.drop pos)
      rw [List.length_drop] at hwl
      rw [hrw] at hstep hwd hwl hr1
      simp only at hstep hwd hwl hr1
      rw [List.drop_drop] at hstep
      rw [hstep, ← List.append_assoc] at hacc
      rw [hdec, hrw] at hnx
      have hit2 := Lib.iterAt_heap wr it sb pos (pos + wd) hit
      have hsi : w.heap.size ≤ it := by rw [HIT.out]; exact HSIZE.out
      have hP2 : BPost B b acc w (wr.iterAt it sb (pos + wd)) := ⟨hP.1.iterAt hit _, Lib.below_iterAt hP.2.1 (by have := HB.out; omega) sb _, others_iter hP.2.2 hsi⟩
      have hal : acc.length + (quoteR r).length + 1 ≤ 140737488000000 := by
        have h1 := HLEN.out
        have h2 := congrArg List.length hacc
        simp only [List.length_append] at h2 h1
        omega
      have HACC := Lib.hid hacc
      have HAL := Lib.hid hal
      have HP2 := Lib.hid hP2
      have hbi : it ≠ b := by
        have := p1.1.lt
        have := HIT.out
        omega
      have HST := Lib.hid (show 1 ≤ wd ∧ wd ≤ s.length - pos from ⟨hwd, hwl⟩)
      have HBW := Lib.hid (show B ≤ (wr.iterAt it sb (pos + wd)).heap.size by have := hP2.1.lt; omega)
      clear hdec hrw hstep hwd hwl hacc hal hne hP hP2
      -- the end of a round
      have fin : ∀ wx : World, BPost B b (acc ++ quoteR r) (wr.iterAt it sb (pos + wd)) wx → (∃ (pos' : Nat) (acc' : List UInt8), pos' ≤ s.length ∧ BPost B b acc' w wx ∧ wx.heap[it]? = some (.stringIter sb pos') ∧ acc' ++ quoteD (s.drop pos').length (s.drop pos') = (l ++ [34]) ++ quoteD s.length s) ∧ s.length - wx.iterPos it < s.length - wr.iterPos it := by
        intro wx hx
        have hi3 := hx.2.2.iter hit2 hbi
        refine ⟨⟨pos + wd, acc ++ quoteR r, by have := HST.out; omega, HP2.out.trans hx, hi3, HACC.out⟩, ?_⟩
        simp only [World.iterPos, hi3, hit]
        have := HST.out
        omega
      have FIN := Lib.hid fin
      clear fin
      by_cases hq : r = 34 ∨ r = 92
      · have hR : quoteR r = [92] ++ Lib.encodeRune r := by unfold quoteR; rw [if_pos hq]; rfl
        have he4 := (Lib.runeCells_le (r : Int)).1
        have HR := Lib.hid hR
        have hRl : (quoteR r).length = 1 + (Lib.encodeRune r).length := by rw [hR]; simp; omega
        have hlen1 : acc.length + 1 ≤ 140737488355328 := by have := HAL.out; omega
        have hlen2 : (acc ++ [92]).length + 4 ≤ 140737488355328 := by have := HAL.out; rw [List.length_append]; simp; omega
        have H1 := Lib.hid (writeByte_any (c := 92) HP2.out.1 hlen1 HBW.out)
        have HL2 := Lib.hid hlen2
        clear hR he4 hRl hlen1 hlen2
        have key : ∀ (Q : Prop), Q → Q := fun _ h => h
        rcases hq with rfl | rfl
        · go_wp2_with (first
            | (go_at_call 53; go_must (refine H1.out.mono ?_; rintro e w2 ⟨rfl, p2⟩))
            | (go_at_call 74; go_must (refine (writeRune_any 34 (by decide) (by decide) p2.1 HL2.out (by have := p2.1.lt; omega)).mono ?_; rintro e w3 ⟨rfl, p3⟩)))
          go_roundw
          case rel => exact (FIN.out _ (by rw [HR.out, ← List.append_assoc]; exact p2.trans p3)).1
          case measure => exact (FIN.out _ (by rw [HR.out, ← List.append_assoc]; exact p2.trans p3)).2
        · go_wp2_with (first
            | (go_at_call 53; go_must (refine H1.out.mono ?_; rintro e w2 ⟨rfl, p2⟩))
            | (go_at_call 74; go_must (refine (writeRune_any 92 (by decide) (by decide) p2.1 HL2.out (by have := p2.1.lt; omega)).mono ?_; rintro e w3 ⟨rfl, p3⟩)))
          go_roundw
          case rel => exact (FIN.out _ (by rw [HR.out, ← List.append_assoc]; exact p2.trans p3)).1
          case measure => exact (FIN.out _ (by rw [HR.out, ← List.append_assoc]; exact p2.trans p3)).2
      · have q34 : ((r : Int) == 34) = false := by simp; omega
        have q92 : ((r : Int) == 92) = false := by simp; omega
        by_cases h32 : r < 32
        · have d32 : decide ((r : Int) < 32) = true := by simp; omega
          have hR : quoteR r = [92, 117, 48, 48] ++ [hexC (r / 16)] ++ [hexC (r % 16)] := by unfold quoteR; rw [if_neg hq, if_pos h32]; rfl
          have HR := Lib.hid hR
          have ha := and15 r h32
          have hx1 := hexC_get (n := r / 16) (by omega)
          have hx2 := hexC_get (n := r % 16) (by omega)
          have hr0 : (0 : Int) ≤ (r : Int) := by omega
          have hlen1 : acc.length + [(92 : UInt8), 117, 48, 48].length ≤ 140737488355328 := by have := HAL.out; simp; omega
          have hlen2 : (acc ++ [92, 117, 48, 48]).length + 1 ≤ 140737488355328 := by have := HAL.out; rw [List.length_append]; simp; omega
          have hlen3 : (acc ++ [92, 117, 48, 48] ++ [hexC (r / 16)]).length + 1 ≤ 140737488355328 := by have := HAL.out; rw [List.length_append, List.length_append]; simp; omega
          have HW1 := Lib.hid (writeString_any [92, 117, 48, 48] HP2.out.1 hlen1 HBW.out)
          have HL2 := Lib.hid hlen2
          have HL3 := Lib.hid hlen3
          have HX1 := Lib.hid hx1
          have HX2 := Lib.hid hx2
          clear hR hlen1 hlen2 hlen3 hx1 hx2
          go_wp2_with (first
            | (go_at_call 50; go_must (refine HW1.out.mono ?_; rintro e w2 ⟨rfl, p2⟩))
            | (go_at_call 53; have hx_ := p3; go_must (rw [HX2.out]; refine (writeByte_any (c := hexC (r % 16)) p3.1 HL3.out (by have h_ := p3.1.lt; omega)).mono ?_; rintro e w4 ⟨rfl, p4⟩))
            | (go_at_call 53; go_must (rw [HX1.out]; refine (writeByte_any (c := hexC (r / 16)) p2.1 HL2.out (by have h_ := p2.1.lt; omega)).mono ?_; rintro e w3 ⟨rfl, p3⟩)))
          have p5 : BPost B b (acc ++ quoteR r) (wr.iterAt it sb (pos + wd)) w4 := by
            rw [HR.out, ← List.append_assoc, ← List.append_assoc]
            exact (p2.trans p3).trans p4
          go_roundw
          case rel => exact (FIN.out _ p5).1
          case measure => exact (FIN.out _ p5).2
        · have d32 : decide ((r : Int) < 32) = false := by simp; omega
          have hR : quoteR r = Lib.encodeRune r := by unfold quoteR; rw [if_neg hq, if_neg h32]
          have HR := Lib.hid hR
          have hlen2 : acc.length + 4 ≤ 140737488355328 := by have := HAL.out; omega
          have HW1 := Lib.hid (writeRune_any (r : Int) (by omega) (by omega) HP2.out.1 hlen2 HBW.out)
          clear hR
          go_wp2_with (go_at_call 74; go_must (refine HW1.out.mono ?_; rintro e w3 ⟨rfl, p3⟩))
          go_roundw
          case rel => exact (FIN.out _ (by rw [HR.out]; exact p3)).1
          case measure => exact (FIN.out _ (by rw [HR.out]; exact p3)).2
    · obtain rfl : pos = s.length := by omega
      have hnx : ∀ ty, (Instr.next (.pointer (some ⟨it, 0, none⟩)) true ty).run Tryd.prog wr = _ := fun ty => Lib.run_next_end_at wr it sb s.length ty hit (by rw [HSZ.out]; exact hp)
      have hz : quoteD (s.drop s.length).length (s.drop s.length) = [] := by rw [List.drop_length]; rfl
      rw [hz, List.append_nil] at hacc
      have hw2 := writeByte_any (c := 34) hP.1 (by have := HLEN.out; rw [hacc, List.length_append]; omega) (by have := hP.1.lt; omega)
      have HW2 := Lib.hid hw2
      have HACC := Lib.hid hacc
      clear hz hacc hw2
      go_wp2_with (go_at_call 53; go_must (refine HW2.out.mono ?_; rintro e w2 ⟨rfl, p2⟩))
      first
        | go_end0
        | (refine bodyPost_ret (results_none rfl _ _ _) rfl ?_)
      refine ⟨rfl, ?_⟩
      have := hP.trans p2
      rw [HACC.out] at this
      unfold quoteB
      simpa using this
end Go.Proofs.YtkbopeoaoakfnaaDoor
