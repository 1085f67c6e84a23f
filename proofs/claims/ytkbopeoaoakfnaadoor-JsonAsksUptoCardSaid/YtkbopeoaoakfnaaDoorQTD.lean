/- The texts JT6 of this work, merged by wip/merge.py. No conditions. -/
import Derived.Test.YtkbopeoaoakfnaaDoorQTC
import Derived.Test.YtkbopeoaoakfnaaDoorQJH
namespace Go.Proofs.YtkbopeoaoakfnaaDoor
open Go.RowKit
def VU (t : TR) : Prop := ∀ (w : World) (F : Nat → Prop) (us : List Value), IsT w F us t → (∀ k, F k → k < w.heap.size) → Sm t → Calls Tryd.prog 13 #[.agg us.toArray] w fun e w' => ∃ v, e = .returned v ∧ Below w.heap.size w w' ∧ IsV w' (fun k => w.heap.size ≤ k ∧ k < w'.heap.size) v (valT t)
theorem valTL_take (ps : List TR) (i : Nat) (t : TR) (h : ps[i]? = some t) : (valTL ps).take (i + 1) = (valTL ps).take i ++ [valT t] := by
  rw [List.take_add_one, valTL_map, List.getElem?_map, h]
  rfl
section
variable {w : World} {F : Nat → Prop}
set_option maxRecDepth 100000 in
set_option maxHeartbeats 400000 in
theorem val_null {b : Bool} {s : List UInt8} {Ak Ap : Option Addr} {nk ck np cp : Nat} : Calls Tryd.prog 13 #[.agg #[.int .i64 0, .bool b, .string ⟨s.toArray⟩, .slice Ak nk ck, .slice Ap np cp]] w fun e w' => ∃ v, e = .returned v ∧ Below w.heap.size w w' ∧ IsV w' (fun k => w.heap.size ≤ k ∧ k < w'.heap.size) v .null := by
  have HBX : Hid (∀ cs, Below w.heap.size w (w.alloc (.cells cs 25))) := fun cs => (Below.refl _ _).alloc (Nat.le_refl _) _
  go_enter Tryd.func13, Tryd.ntmps13
  go_wp2
  go_ret
  exact ⟨_, rfl, HBX.out _, .null⟩
set_option maxRecDepth 100000 in
set_option maxHeartbeats 400000 in
theorem val_bool {b : Bool} {s : List UInt8} {Ak Ap : Option Addr} {nk ck np cp : Nat} : Calls Tryd.prog 13 #[.agg #[.int .i64 1, .bool b, .string ⟨s.toArray⟩, .slice Ak nk ck, .slice Ap np cp]] w fun e w' => ∃ v, e = .returned v ∧ Below w.heap.size w w' ∧ IsV w' (fun k => w.heap.size ≤ k ∧ k < w'.heap.size) v (.bool b) := by
  have HBX : Hid (∀ cs, Below w.heap.size w (w.alloc (.cells cs 25))) := fun cs => (Below.refl _ _).alloc (Nat.le_refl _) _
  go_enter Tryd.func13, Tryd.ntmps13
  go_wp2
  go_ret
  exact ⟨_, rfl, HBX.out _, .bool b⟩
set_option maxRecDepth 100000 in
set_option maxHeartbeats 400000 in
theorem val_num {b : Bool} {s : List UInt8} {Ak Ap : Option Addr} {nk ck np cp : Nat} : Calls Tryd.prog 13 #[.agg #[.int .i64 2, .bool b, .string ⟨s.toArray⟩, .slice Ak nk ck, .slice Ap np cp]] w fun e w' => ∃ v, e = .returned v ∧ Below w.heap.size w w' ∧ IsV w' (fun k => w.heap.size ≤ k ∧ k < w'.heap.size) v (.num s) := by
  have HBX : Hid (∀ cs, Below w.heap.size w (w.alloc (.cells cs 25))) := fun cs => (Below.refl _ _).alloc (Nat.le_refl _) _
  go_enter Tryd.func13, Tryd.ntmps13
  go_wp2
  go_ret
  exact ⟨_, rfl, HBX.out _, .num s⟩
set_option maxRecDepth 100000 in
set_option maxHeartbeats 400000 in
theorem val_text {b : Bool} {s : List UInt8} {Ak Ap : Option Addr} {nk ck np cp : Nat} : Calls Tryd.prog 13 #[.agg #[.int .i64 3, .bool b, .string ⟨s.toArray⟩, .slice Ak nk ck, .slice Ap np cp]] w fun e w' => ∃ v, e = .returned v ∧ Below w.heap.size w w' ∧ IsV w' (fun k => w.heap.size ≤ k ∧ k < w'.heap.size) v (.text s) := by
  have HBX : Hid (∀ cs, Below w.heap.size w (w.alloc (.cells cs 25))) := fun cs => (Below.refl _ _).alloc (Nat.le_refl _) _
  go_enter Tryd.func13, Tryd.ntmps13
  go_wp2
  go_ret
  exact ⟨_, rfl, HBX.out _, .text s⟩
set_option maxRecDepth 100000 in
set_option maxHeartbeats 400000 in
theorem val_nil {k : Int} {b : Bool} {s : List UInt8} {Ak Ap : Option Addr} {nk ck np cp : Nat} (h0 : k ≠ 0) (h1 : k ≠ 1) (h2 : k ≠ 2) (h3 : k ≠ 3) (h4 : k ≠ 4) (h5 : k ≠ 5) : Calls Tryd.prog 13 #[.agg #[.int .i64 k, .bool b, .string ⟨s.toArray⟩, .slice Ak nk ck, .slice Ap np cp]] w fun e w' => ∃ v, e = .returned v ∧ Below w.heap.size w w' ∧ IsV w' (fun k => w.heap.size ≤ k ∧ k < w'.heap.size) v .nil := by
  have HBX : Hid (∀ cs, Below w.heap.size w (w.alloc (.cells cs 25))) := fun cs => (Below.refl _ _).alloc (Nat.le_refl _) _
  have q0 : (k == 0) = false := by simpa using h0
  have q1 : (k == 1) = false := by simpa using h1
  have q2 : (k == 2) = false := by simpa using h2
  have q3 : (k == 3) = false := by simpa using h3
  have q4 : (k == 4) = false := by simpa using h4
  have q5 : (k == 5) = false := by simpa using h5
  clear h0 h1 h2 h3 h4 h5
  go_enter Tryd.func13, Tryd.ntmps13
  go_wp2
  go_ret
  exact ⟨_, rfl, HBX.out _, .nil⟩
set_option maxRecDepth 100000 in
set_option maxHeartbeats 800000 in
theorem val_list {b : Bool} {s : List UInt8} {Ak Ap : Option Addr} {nk ck cp : Nat} {uss : List (List Value)} {ps : List TR} (ih : ∀ t ∈ ps, VU t) (hsm : ∀ p ∈ ps, Sm p) (hps : ps.length ≤ 1048576) (hu : uss.length = ps.length) (hrp : Rd w F Ap uss.flatten)
    (he : ∀ (i : Nat) (us : List Value) (t : TR), uss[i]? = some us → ps[i]? = some t → IsT w F us t) (hF : ∀ k, F k → k < w.heap.size) :
    Calls Tryd.prog 13 #[.agg #[.int .i64 4, .bool b, .string ⟨s.toArray⟩, .slice Ak nk ck, .slice Ap ps.length cp]] w fun e w' => ∃ v, e = .returned v ∧ Below w.heap.size w w' ∧ IsV w' (fun k => w.heap.size ≤ k ∧ k < w'.heap.size) v (.list (valTL ps)) := by
  obtain ⟨sb, hsb⟩ : ∃ sb : ByteArray, sb = ⟨s.toArray⟩ := ⟨_, rfl⟩
  rw [← hsb]
  clear hsb
  obtain ⟨T0, hT0⟩ : ∃ T0 : Array Value, T0 = #[.int .i64 4, .bool b, .string sb, .slice Ak nk ck, .slice Ap ps.length cp] := ⟨_, rfl⟩
  obtain ⟨B, hBe⟩ : ∃ B, B = w.heap.size := ⟨_, rfl⟩
  obtain ⟨w3, hw3⟩ : ∃ w3, w3 = w.alloc (.cells #[.int .i64 4, .bool b, .string sb, .slice Ak nk ck, .slice Ap ps.length cp] 25) := ⟨_, rfl⟩
  have h3 : Below B w w3 ∧ w3.heap[B]? = some (.cells T0 25 (0, 0)) ∧ w3.heap.size = B + 1 := by
    rw [hw3, hBe, ← hT0]
    exact ⟨(Below.refl _ _).alloc (Nat.le_refl _) _, heap_alloc_new _ _, by simp⟩
  have IH := Lib.hid ih
  have SMS := Lib.hid hsm
  have HU := Lib.hid hu
  have HE := Lib.hid he
  have HRP := Lib.hid hrp
  have HF := Lib.hid hF
  have HPS := Lib.hid hps
  have H3 := Lib.hid h3
  have HBe := Lib.hid hBe
  have CELL : Hid (∀ wr, Below (B + 1) w3 wr → wr.cell? ⟨B, 4, none⟩ = some (.slice Ap ps.length cp)) := by
    intro wr hb
    have h1 := (hb.block B (by omega)).trans h3.2.1
    rw [hT0] at h1
    exact cell_of_row wr B 4 _ _ _ h1
  have OLD : Hid (∀ wr, Below (B + 1) w3 wr → ∀ q, q < B → wr.heap[q]? = w.heap[q]?) := fun wr hb q hq => (hb.block q (by omega)).trans (h3.1.block q hq)
  obtain ⟨i0, hi0, hz0, hz1, hz2⟩ := info_parts vinfo
  clear hu ih hsm he hrp hF hps h3 hT0
  go_enter Tryd.func13, Tryd.ntmps13
  go_wp2
  rw [← hw3, ← hBe]
  clear hw3 hBe
  go_loopw [34, 3] (fun iv v wr => ∃ (i : Nat) (us2 : List Value), i ≤ ps.length ∧ iv = .int .i64 (i : Int) ∧ LV wr (B + 1) 30 1 v us2 us2 ((valTL ps).take i) ∧ Below (B + 1) w3 wr) (fun iv _ _ => ps.length - (intOf iv).toNat)
  case atStart => exact ⟨0, [], Nat.zero_le _, rfl, LV.nil _ _ _ _, Below.refl _ _⟩
  case round =>
    obtain ⟨i, us2, hi, rfl, hT, hB⟩ := hrel
    have hlen : ((valTL ps).take i).length = i := by rw [List.length_take, valTL_map, List.length_map]; omega
    obtain ⟨Al, cl, hv, _, _⟩ := hT.rd
    subst hv
    rw [hlen] at hT ⊢
    by_cases hlt : i < ps.length
    · obtain ⟨t, ht⟩ : ∃ t, ps[i]? = some t := ⟨_, List.getElem?_eq_getElem hlt⟩
      obtain ⟨us, b0, off, rfl, hb0, hus, hist, h5, hcs⟩ := HRP.out.row HU.out HE.out ht
      have hB0 : b0 < B := by rw [HBe.out]; exact HF.out b0 hb0
      have hrow : wr.rangeAt b0 (off + i * 5) us.toArray.toList := by
        intro j x hx
        have hx' : us[j]? = some x := hx
        rw [World.cell?_of_block (w := w) (a := ⟨b0, off + i * 5 + j, none⟩) (OLD.out wr hB b0 hB0)]
        exact hcs j x hx'
      have hz5 : (Tryd.prog.info? 25).map (·.size) = some us.toArray.size := by
        have : us.toArray.size = 5 := by simpa using h5
        rw [this]
        exact lawtree5
      have f4 := CELL.out wr hB
      have hiI : (i : Int) < (ps.length : Int) := by omega
      have HI3 : Hid ((i : Int) + 1 ≤ 1048576) := by show _ ≤ _; have := HPS.out; omega
      have hd : decide (i < ps.length) = true := by simp; omega
      have HT := Lib.hid hT
      have HB := Lib.hid hB
      have HLT := Lib.hid hlt
      have HROW := Lib.hid hrow
      have HTI := Lib.hid ht
      have HSZ : Hid (B + 1 ≤ wr.heap.size) := by show _ ≤ _; have h1_ := H3.out.2.2; have h2_ := hB.size; omega
      have HCALL := Lib.hid (IH.out t (List.mem_of_getElem? ht) wr F us (hist.keep (fun q hq => OLD.out wr hB q (by rw [HBe.out]; exact HF.out q hq)) (fun q hq => hq)) (fun q hq => by have h1_ := HF.out q hq; have h2_ := HSZ.out; have h3_ := HBe.out; omega) (SMS.out t (List.mem_of_getElem? ht)))
      have HLEN := Lib.hid hlen
      clear hT hB hlt hrow hb0 hus h5 hcs hB0 ht hi hist hlen
      go_upto_region 16 with (first
        | (refine wpList_load_arr rfl _ _ rfl b0 (off + i * 5) rfl us.toArray _ (by with_reducible exact HROW.out) Tryd.underlying25 rfl (by with_reducible exact hz5) ?_)
        | (go_at_call 13; go_must (refine HCALL.out.mono ?_; rintro e w2 ⟨u, rfl, hb2, hu2⟩; have hu1 := hu2.one; have HU2 := Lib.hid hu2; have HB2 := Lib.hid hb2; clear hu2 hb2))
        | (at_builtin; go_loud (refine app1 (cs := #[u]) (n := i) (s := 1) (base := B + 1) (xs := us2) rfl rfl rfl rfl Tryd.underlying49 hi0 hz0 hz1 hz2 rfl (by decide) (by have h_ := ((HT.out.below HB2.out).below HB8.out).own; rw [HLEN.out] at h_; exact h_) HBK.out rfl (by simp [hu1.2]) (by have h_ := HI3.out; omega) (by have h_ := HI3.out; omega) (by have h1_ := HSZ.out; have h2_ := HB2.out.size; have h3_ := HB8.out.size; omega) ?_; intro v9 w9 ho9 hg9 hb9; obtain ⟨A9, n9, hv9, _, _⟩ := own_rd ho9; subst hv9; have HT9 := Lib.hid ((HT.out.below HB2.out).more (m := wr.heap.size) (ys := #[u].toList) (fun q hq => (HT.out.blk q hq)) HU2.out HB8.out (by rw [HLEN.out]) ho9 hg9 hb9 HSZ.out); have HG9 := Lib.hid hg9; clear ho9 hg9 hb9))
        | (refine slice1v (u := u) rfl rfl rfl hu1.1 Tryd.underlying49 hi0 hz0 hz1 ?_; have hblk := heap_alloc_new w2 (.cells #[u] 30); have hb8 : Below w2.heap.size w2 (w2.alloc (.cells #[u] 30)) := (Below.refl _ _).alloc (Nat.le_refl _) _; generalize w2.alloc (.cells #[u] 30) = w8 at hblk hb8 ⊢; have HBK := Lib.hid hblk; have HB8 := Lib.hid hb8; clear hblk hb8))
      have hi3 := HI3.out
      have HB9 : Hid (Below (B + 1) w3 w9) := by
        have h1_ := (HB.out.trans (HB2.out.mono HSZ.out)).trans (HB8.out.mono (by have h1_ := HSZ.out; have h2_ := HB2.out.size; omega))
        exact h1_.grown HG9.out (by have h1_ := HSZ.out; have h2_ := HB2.out.size; have h3_ := HB8.out.size; omega) (fun q hq => by have h_ := World.ownsRow.lt HT.out.own q hq; omega)
      go_wp2
      go_roundw
      case rel =>
        refine ⟨i + 1, us2 ++ [u], HLT.out, by go_num, ?_, HB9.out⟩
        rw [valTL_take _ _ _ HTI.out]
        exact HT9.out
      case measure => have := HLT.out; simp [intOf]; omega
    · obtain rfl : i = ps.length := by omega
      have hd : decide (ps.length < ps.length) = false := by simp
      rw [List.take_of_length_le (by rw [valTL_map, List.length_map]; omega)] at hT
      have HT := Lib.hid hT
      have HB := Lib.hid hB
      have HLN := Lib.hid (show (valTL ps).length = ps.length by rw [valTL_map, List.length_map])
      clear hT hB hi hlt hlen
      go_wp2
      go_ret
      refine ⟨_, rfl, by rw [← HBe.out]; exact H3.out.1.trans (HB.out.mono (by omega)), ?_⟩
      have h_ := HT.out
      exact h_.list.keep (fun _ _ => rfl) (fun q hq => ⟨by rw [← HBe.out]; omega, hq.2⟩)
set_option maxRecDepth 100000 in
set_option maxHeartbeats 800000 in
theorem val_obj {b : Bool} {s : List UInt8} {Ak Ap : Option Addr} {ck cp : Nat} {ks : List (List UInt8)} {uss : List (List Value)} {ps : List TR} (ih : ∀ t ∈ ps, VU t) (hsm : ∀ p ∈ ps, Sm p) (hps : ps.length ≤ 1048576) (hu : uss.length = ps.length) (hrk : Rd w F Ak (strs ks)) (hrp : Rd w F Ap uss.flatten)
    (he : ∀ (i : Nat) (us : List Value) (t : TR), uss[i]? = some us → ps[i]? = some t → IsT w F us t) (hF : ∀ k, F k → k < w.heap.size) :
    Calls Tryd.prog 13 #[.agg #[.int .i64 5, .bool b, .string ⟨s.toArray⟩, .slice Ak ks.length ck, .slice Ap ps.length cp]] w fun e w' => ∃ v, e = .returned v ∧ Below w.heap.size w w' ∧ IsV w' (fun k => w.heap.size ≤ k ∧ k < w'.heap.size) v (.obj (keysOf ks ps.length) (valTL ps)) := by
  obtain ⟨sb, hsb⟩ : ∃ sb : ByteArray, sb = ⟨s.toArray⟩ := ⟨_, rfl⟩
  rw [← hsb]
  clear hsb
  obtain ⟨T0, hT0⟩ : ∃ T0 : Array Value, T0 = #[.int .i64 5, .bool b, .string sb, .slice Ak ks.length ck, .slice Ap ps.length cp] := ⟨_, rfl⟩
  obtain ⟨B, hBe⟩ : ∃ B, B = w.heap.size := ⟨_, rfl⟩
  obtain ⟨w3, hw3⟩ : ∃ w3, w3 = w.alloc (.cells #[.int .i64 5, .bool b, .string sb, .slice Ak ks.length ck, .slice Ap ps.length cp] 25) := ⟨_, rfl⟩
  have h3 : Below B w w3 ∧ w3.heap[B]? = some (.cells T0 25 (0, 0)) ∧ w3.heap.size = B + 1 := by
    rw [hw3, hBe, ← hT0]
    exact ⟨(Below.refl _ _).alloc (Nat.le_refl _) _, heap_alloc_new _ _, by simp⟩
  have IH := Lib.hid ih
  have SMS := Lib.hid hsm
  have HU := Lib.hid hu
  have HE := Lib.hid he
  have HRP := Lib.hid hrp
  have HRK := Lib.hid hrk
  have HF := Lib.hid hF
  have HPS := Lib.hid hps
  have H3 := Lib.hid h3
  have HBe := Lib.hid hBe
  have CELL : Hid (∀ wr, Below (B + 1) w3 wr → wr.cell? ⟨B, 4, none⟩ = some (.slice Ap ps.length cp) ∧ wr.cell? ⟨B, 3, none⟩ = some (.slice Ak ks.length ck)) := by
    intro wr hb
    have h1 := (hb.block B (by omega)).trans h3.2.1
    rw [hT0] at h1
    exact ⟨cell_of_row wr B 4 _ _ _ h1, cell_of_row wr B 3 _ _ _ h1⟩
  have OLD : Hid (∀ wr, Below (B + 1) w3 wr → ∀ q, q < B → wr.heap[q]? = w.heap[q]?) := fun wr hb q hq => (hb.block q (by omega)).trans (h3.1.block q hq)
  obtain ⟨i0, hi0, hz0, hz1, hz2⟩ := info_parts minfo
  clear hu ih hsm he hrp hrk hF hps h3 hT0
  go_enter Tryd.func13, Tryd.ntmps13
  go_wp2
  rw [← hw3, ← hBe]
  clear hw3 hBe
  go_loopw [54, 5] (fun iv v wr => ∃ (i : Nat) (us2 : List Value), i ≤ ps.length ∧ iv = .int .i64 (i : Int) ∧ LV wr (B + 1) 75 2 v (mems ((keysOf ks ps.length).take i) us2) us2 ((valTL ps).take i) ∧ Below (B + 1) w3 wr) (fun iv _ _ => ps.length - (intOf iv).toNat)
  case atStart => exact ⟨0, [], Nat.zero_le _, rfl, LV.nil _ _ _ _, Below.refl _ _⟩
  case round =>
    obtain ⟨i, us2, hi, rfl, hT, hB⟩ := hrel
    have hlen : ((valTL ps).take i).length = i := by rw [List.length_take, valTL_map, List.length_map]; omega
    obtain ⟨Al, cl, hv, _, _⟩ := hT.rd
    subst hv
    rw [hlen] at hT ⊢
    by_cases hlt : i < ps.length
    · obtain ⟨t, ht⟩ : ∃ t, ps[i]? = some t := ⟨_, List.getElem?_eq_getElem hlt⟩
      obtain ⟨us, b0, off, rfl, hb0, hus, hist, h5, hcs⟩ := HRP.out.row HU.out HE.out ht
      have hB0 : b0 < B := by rw [HBe.out]; exact HF.out b0 hb0
      have hrow : wr.rangeAt b0 (off + i * 5) us.toArray.toList := by
        intro j x hx
        have hx' : us[j]? = some x := hx
        rw [World.cell?_of_block (w := w) (a := ⟨b0, off + i * 5 + j, none⟩) (OLD.out wr hB b0 hB0)]
        exact hcs j x hx'
      have hz5 : (Tryd.prog.info? 25).map (·.size) = some us.toArray.size := by
        have : us.toArray.size = 5 := by simpa using h5
        rw [this]
        exact lawtree5
      obtain ⟨f4, f3⟩ := CELL.out wr hB
      have hiI : (i : Int) < (ps.length : Int) := by omega
      have HI3 : Hid ((i : Int) + 1 ≤ 1048576) := by show _ ≤ _; have := HPS.out; omega
      have hd : decide (i < ps.length) = true := by simp; omega
      have HT := Lib.hid hT
      have HB := Lib.hid hB
      have HLT := Lib.hid hlt
      have HROW := Lib.hid hrow
      have HTI := Lib.hid ht
      have HSZ : Hid (B + 1 ≤ wr.heap.size) := by show _ ≤ _; have h1_ := H3.out.2.2; have h2_ := hB.size; omega
      have HCALL := Lib.hid (IH.out t (List.mem_of_getElem? ht) wr F us (hist.keep (fun q hq => OLD.out wr hB q (by rw [HBe.out]; exact HF.out q hq)) (fun q hq => hq)) (fun q hq => by have h1_ := HF.out q hq; have h2_ := HSZ.out; have h3_ := HBe.out; omega) (SMS.out t (List.mem_of_getElem? ht)))
      have HLEN := Lib.hid hlen
      clear hT hB hlt hrow hb0 hus h5 hcs hB0 ht hi hist hlen
      obtain ⟨KB, hKB⟩ : ∃ KB : ByteArray, KB = ⟨(ks.getD i []).toArray⟩ := ⟨_, rfl⟩
      have HKB := Lib.hid hKB
      clear hKB
      go_upto_if 61 with (fail)
      go_cut [7] from 61 to 78 (fun v w' => v = .string KB ∧ w' = wr)
      case first =>
        by_cases hik : i < ks.length
        · have hkk := strs_get ks i _ (List.getElem?_eq_getElem hik)
          obtain ⟨bk, offk, rfl, hbk, hck⟩ := HRK.out (by intro h0; rw [h0] at hkk; simp at hkk)
          have hgd : ks.getD i [] = ks[i] := by simp [List.getD, List.getElem?_eq_getElem hik]
          have hckk : wr.cell? ⟨bk, offk + i, none⟩ = some (.string KB) := by
            rw [HKB.out, hgd, World.cell?_of_block (w := w) (a := ⟨bk, offk + i, none⟩) (OLD.out wr HB.out bk (by rw [HBe.out]; exact HF.out bk hbk))]
            exact hck i _ hkk
          have hikI : (i : Int) < (ks.length : Int) := by omega
          have hd2 : decide (i < ks.length) = true := by simp; omega
          clear hkk hck hgd hbk
          rw [hd2]
          go_wp2
          go_meet
          case rel => exact ⟨rfl, rfl⟩
        · have hgd : ks.getD i [] = [] := by simp [List.getD, List.getElem?_eq_none (show ks.length ≤ i by omega)]
          have hd2 : decide (i < ks.length) = false := by simp; omega
          have hn2 : ¬ (i : Int) < (ks.length : Int) := by omega
          rw [hd2]
          go_wp2
          go_meet
          case rel => exact ⟨by rw [HKB.out, hgd], rfl⟩
      case rest =>
      obtain ⟨rfl, rfl⟩ := hcut
      have HKL := Lib.hid (show ((keysOf ks ps.length).take i).length = i by rw [List.length_take, keysOf_len]; have := HLT.out; omega)
      go_upto_region 27 with (first
        | (refine wpList_load_arr rfl _ _ rfl b0 (off + i * 5) rfl us.toArray _ (by with_reducible exact HROW.out) Tryd.underlying25 rfl (by with_reducible exact hz5) ?_)
        | (go_at_call 13; go_must (refine HCALL.out.mono ?_; rintro e w2 ⟨u, rfl, hb2, hu2⟩; have hu1 := hu2.one; have HU2 := Lib.hid hu2; have HB2 := Lib.hid hb2; clear hu2 hb2))
        | (at_builtin; go_loud (refine app1 (cs := #[.string KB, u]) (n := i) (s := 2) (base := B + 1) (xs := mems ((keysOf ks ps.length).take i) us2) rfl rfl rfl rfl Tryd.underlying73 hi0 hz0 hz1 hz2 rfl (by decide) (by have h_ := ((HT.out.below HB2.out).below HB8.out).own; rw [HLEN.out] at h_; exact h_) HBK.out rfl (by simp [hu1.2]; rfl) (by have h_ := HI3.out; omega) (by have h_ := HI3.out; omega) (by have h1_ := HSZ.out; have h2_ := HB2.out.size; have h3_ := HB8.out.size; omega) ?_; intro v9 w9 ho9 hg9 hb9; obtain ⟨A9, n9, hv9, _, _⟩ := own_rd ho9; subst hv9; have HT9 := Lib.hid ((HT.out.below HB2.out).more (m := wc.heap.size) (ys := #[.string KB, u].toList) (fun q hq => (HT.out.blk q hq)) HU2.out HB8.out (by rw [HLEN.out]) ho9 hg9 hb9 HSZ.out); have HG9 := Lib.hid hg9; clear ho9 hg9 hb9))
        | (refine wpList_build_to rfl 75 _ rfl [(0, .string KB), (1, u)] rfl _ (built_member KB hu1.1) ?_)
        | (refine slice1 (cs := #[.string KB, u]) rfl rfl rfl (s := 2) rfl Tryd.underlying73 hi0 hz0 hz1 (by decide) ?_; have hblk := heap_alloc_new w2 (.cells #[.string KB, u] 75); have hb8 : Below w2.heap.size w2 (w2.alloc (.cells #[.string KB, u] 75)) := (Below.refl _ _).alloc (Nat.le_refl _) _; generalize w2.alloc (.cells #[.string KB, u] 75) = w8 at hblk hb8 ⊢; have HBK := Lib.hid hblk; have HB8 := Lib.hid hb8; clear hblk hb8))
      have hi3 := HI3.out
      have HB9 : Hid (Below (B + 1) w3 w9) := by
        have h1_ := (HB.out.trans (HB2.out.mono HSZ.out)).trans (HB8.out.mono (by have h1_ := HSZ.out; have h2_ := HB2.out.size; omega))
        exact h1_.grown HG9.out (by have h1_ := HSZ.out; have h2_ := HB2.out.size; have h3_ := HB8.out.size; omega) (fun q hq => by have h_ := World.ownsRow.lt HT.out.own q hq; omega)
      go_wp2
      go_roundw
      case rel =>
        refine ⟨i + 1, us2 ++ [u], HLT.out, by go_num, ?_, HB9.out⟩
        rw [valTL_take _ _ _ HTI.out, keysOf_take _ _ _ HLT.out, mems_more (by rw [HKL.out, HT.out.len, HLEN.out]), ← HKB.out]
        exact HT9.out
      case measure => have := HLT.out; simp [intOf]; omega
    · obtain rfl : i = ps.length := by omega
      have hd : decide (ps.length < ps.length) = false := by simp
      rw [List.take_of_length_le (show (valTL ps).length ≤ ps.length by rw [valTL_map, List.length_map]; omega), List.take_of_length_le (show (keysOf ks ps.length).length ≤ ps.length by rw [keysOf_len]; omega)] at hT
      have HT := Lib.hid hT
      have HB := Lib.hid hB
      have HLN := Lib.hid (show (valTL ps).length = ps.length by rw [valTL_map, List.length_map])
      clear hT hB hi hlt hlen
      go_wp2
      go_ret
      refine ⟨_, rfl, by rw [← HBe.out]; exact H3.out.1.trans (HB.out.mono (by omega)), ?_⟩
      have h_ := HT.out
      exact (h_.obj (by rw [keysOf_len, HLN.out])).keep (fun _ _ => rfl) (fun q hq => ⟨by rw [← HBe.out]; omega, hq.2⟩)
end
theorem vu_all : ∀ (n : Nat) (t : TR), SizeOf.sizeOf t ≤ n → VU t
  | 0, t, hn => by cases t; simp at hn
  | n + 1, t, hn => by
    intro w F us hv hF hsm
    cases hv with
    | mk k b s Ak ck ks Ap cp uss ps hu hk hp he =>
      cases hsm with
      | mk _ _ _ _ _ hps hsub =>
        have hs : ∀ p ∈ ps, VU p := fun p hm => vu_all n p (by
          have := List.sizeOf_lt_of_mem hm
          simp at hn
          omega)
        rw [valT]
        by_cases k0 : k = 0
        · subst k0; exact val_null
        rw [if_neg k0]
        by_cases k1 : k = 1
        · subst k1; exact val_bool
        rw [if_neg k1]
        by_cases k2 : k = 2
        · subst k2; exact val_num
        rw [if_neg k2]
        by_cases k3 : k = 3
        · subst k3; exact val_text
        rw [if_neg k3]
        by_cases k4 : k = 4
        · subst k4; exact val_list hs hsub hps hu hp he hF
        rw [if_neg k4]
        by_cases k5 : k = 5
        · subst k5; exact val_obj hs hsub hps hu hk hp he hF
        rw [if_neg k5]
        exact val_nil k0 k1 k2 k3 k4 k5
/-- The law's value. -/
theorem value_any {w : World} {F : Nat → Prop} {us : List Value} {t : TR} (h : IsT w F us t) (hF : ∀ k, F k → k < w.heap.size) (hs : Sm t) : Calls Tryd.prog 13 #[.agg us.toArray] w fun e w' => ∃ v, e = .returned v ∧ Below w.heap.size w w' ∧ IsV w' (fun k => w.heap.size ≤ k ∧ k < w'.heap.size) v (valT t) :=
  vu_all _ t (Nat.le_refl _) w F us h hF hs
end Go.Proofs.YtkbopeoaoakfnaaDoor
