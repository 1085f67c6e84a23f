/- The texts RR14 RP1 of this work, merged by wip/merge.py. No conditions. -/
import Derived.Test.YtkbopeoaoakfnaaDoorQRG
import Derived.Test.YtkbopeoaoakfnaaDoorQWA
import Derived.Test.YtkbopeoaoakfnaaDoorQWB
import Derived.Test.YtkbopeoaoakfnaaDoorQTE
namespace Go.Proofs.YtkbopeoaoakfnaaDoor
open Go.RowKit
mutual
/-- A value without nil, of lists that are no longer than a text may be. -/
def okJ : JV → Bool
  | .nil => false
  | .list l => decide (l.length ≤ 1048576) && okJL l
  | .obj _ l => decide (l.length ≤ 1048576) && okJL l
  | _ => true
def okJL : List JV → Bool
  | [] => true
  | j :: l => okJ j && okJL l
end
theorem okJL_mem : ∀ (l : List JV), okJL l = true → ∀ j ∈ l, okJ j = true
  | [], _, _, h => by cases h
  | a :: l, h, j, hj => by
    rw [okJL, Bool.and_eq_true] at h
    rcases List.mem_cons.1 hj with rfl | h2
    · exact h.1
    · exact okJL_mem l h.2 j h2
mutual
/-- A tree is what a value is. -/
def MJ : JV → TR → Prop
  | .nil, _ => False
  | .null, .mk k _ _ _ _ => k = 0
  | .bool b, .mk k b' _ _ _ => k = 1 ∧ b' = b
  | .num s, .mk k _ s' _ _ => k = 2 ∧ s' = s
  | .text s, .mk k _ s' _ _ => k = 3 ∧ s' = s
  | .list l, .mk k _ _ _ ps => k = 4 ∧ MJL l ps
  | .obj ks l, .mk k _ _ ks' ps => k = 5 ∧ ks' = ks ∧ MJL l ps
def MJL : List JV → List TR → Prop
  | [], [] => True
  | j :: l, p :: ps => MJ j p ∧ MJL l ps
  | _, _ => False
end
theorem MJL_len : ∀ (l : List JV) (ps : List TR), MJL l ps → ps.length = l.length
  | [], [], _ => rfl
  | j :: l, p :: ps, h => by
    rw [MJL] at h
    rw [List.length_cons, List.length_cons, MJL_len l ps h.2]
  | [], _ :: _, h => by simp [MJL] at h
  | _ :: _, [], h => by simp [MJL] at h
theorem MJL_get : ∀ (l : List JV) (ps : List TR), MJL l ps → ∀ (i : Nat) (j : JV) (t : TR), l[i]? = some j → ps[i]? = some t → MJ j t
  | [], [], _, i, j, t, h, _ => by simp at h
  | j :: l, p :: ps, h, i, j', t, h1, h2 => by
    rw [MJL] at h
    cases i with
    | zero => simp at h1 h2; subst h1 h2; exact h.1
    | succ i => exact MJL_get l ps h.2 i j' t (by simpa using h1) (by simpa using h2)
  | [], _ :: _, h, _, _, _, _, _ => by simp [MJL] at h
  | _ :: _, [], h, _, _, _, _, _ => by simp [MJL] at h
/-- What is does. -/
def ISJ (j : JV) : Prop := ∀ (w : World) (F G : Nat → Prop) (v : Value) (us : List Value) (t : TR), IsV w F v j → IsT w G us t → MJ j t → (∀ k, F k → k < w.heap.size) → (∀ k, G k → k < w.heap.size) → okJ j = true → Calls Tryd.prog 19 #[v, .agg us.toArray] w fun e w' => e = .returned (.bool true) ∧ Below w.heap.size w w'
section
variable {w w' : World} {F G : Nat → Prop}
set_option maxRecDepth 100000 in
theorem kind_List (A : Option Addr) (n c : Nat) (w : World) : Calls Tryd.prog 40 #[.slice A n c] w fun e w' => e = .returned (.int .i64 4) ∧ w' = w := by
  go_enter Tryd.func40, Tryd.ntmps40
  go_wp2
  go_ret
  exact ⟨rfl, rfl⟩
set_option maxRecDepth 100000 in
theorem kind_Object (A : Option Addr) (n c : Nat) (w : World) : Calls Tryd.prog 41 #[.slice A n c] w fun e w' => e = .returned (.int .i64 5) ∧ w' = w := by
  go_enter Tryd.func41, Tryd.ntmps41
  go_wp2
  go_ret
  exact ⟨rfl, rfl⟩
set_option maxRecDepth 100000 in
set_option maxHeartbeats 400000 in
theorem is_leaf_null {b0 : Bool} {x0 : ByteArray} {Ak Ap : Option Addr} {nk ck np cp : Nat} : Calls Tryd.prog 19 #[.iface 70 (.agg #[]), .agg #[.int .i64 0, .bool b0, .string x0, .slice Ak nk ck, .slice Ap np cp]] w fun e w' => e = .returned (.bool true) ∧ Below w.heap.size w w' := by
  have HB1 : Hid (∀ o, Below w.heap.size w (w.alloc o)) := fun o => (Below.refl _ _).alloc (Nat.le_refl _) _
  have HB2 : Hid (∀ o o', Below w.heap.size w ((w.alloc o).alloc o')) := fun o o' => (HB1.out o).alloc (by simp) _
  have HB3 : Hid (∀ o o' o'', Below w.heap.size w (((w.alloc o).alloc o').alloc o'')) := fun o o' o'' => (HB2.out o o').alloc (by simp; omega) _
  have fNull := fun w => is_Null (.agg #[]) w
  go_enter Tryd.func19, Tryd.ntmps19
  go_wp2
  go_ret
  exact ⟨by simp, by first | exact HB1.out _ | exact HB2.out _ _ | exact HB3.out _ _ _⟩
set_option maxRecDepth 100000 in
set_option maxHeartbeats 400000 in
theorem is_leaf_bool {b : Bool} {x0 : ByteArray} {Ak Ap : Option Addr} {nk ck np cp : Nat} : Calls Tryd.prog 19 #[.iface 71 (.bool b), .agg #[.int .i64 1, .bool b, .string x0, .slice Ak nk ck, .slice Ap np cp]] w fun e w' => e = .returned (.bool true) ∧ Below w.heap.size w w' := by
  have HB1 : Hid (∀ o, Below w.heap.size w (w.alloc o)) := fun o => (Below.refl _ _).alloc (Nat.le_refl _) _
  have HB2 : Hid (∀ o o', Below w.heap.size w ((w.alloc o).alloc o')) := fun o o' => (HB1.out o).alloc (by simp) _
  have HB3 : Hid (∀ o o' o'', Below w.heap.size w (((w.alloc o).alloc o').alloc o'')) := fun o o' o'' => (HB2.out o o').alloc (by simp; omega) _
  have fNull := fun w => no_Null (t := 71) (by decide) (.bool b) w
  have fBool := fun w => is_Bool (.bool b) w
  go_enter Tryd.func19, Tryd.ntmps19
  go_wp2
  go_ret
  exact ⟨by simp, by first | exact HB1.out _ | exact HB2.out _ _ | exact HB3.out _ _ _⟩
set_option maxRecDepth 100000 in
set_option maxHeartbeats 400000 in
theorem is_leaf_num {b0 : Bool} {x : ByteArray} {Ak Ap : Option Addr} {nk ck np cp : Nat} : Calls Tryd.prog 19 #[.iface 61 (.string x), .agg #[.int .i64 2, .bool b0, .string x, .slice Ak nk ck, .slice Ap np cp]] w fun e w' => e = .returned (.bool true) ∧ Below w.heap.size w w' := by
  have HB1 : Hid (∀ o, Below w.heap.size w (w.alloc o)) := fun o => (Below.refl _ _).alloc (Nat.le_refl _) _
  have HB2 : Hid (∀ o o', Below w.heap.size w ((w.alloc o).alloc o')) := fun o o' => (HB1.out o).alloc (by simp) _
  have HB3 : Hid (∀ o o' o'', Below w.heap.size w (((w.alloc o).alloc o').alloc o'')) := fun o o' o'' => (HB2.out o o').alloc (by simp; omega) _
  have fNull := fun w => no_Null (t := 61) (by decide) (.string x) w
  have fBool := fun w => no_Bool (t := 61) (by decide) (.string x) w
  have fNumber := fun w => is_Number (.string x) w
  go_enter Tryd.func19, Tryd.ntmps19
  go_wp2
  go_ret
  exact ⟨by simp, by first | exact HB1.out _ | exact HB2.out _ _ | exact HB3.out _ _ _⟩
set_option maxRecDepth 100000 in
set_option maxHeartbeats 400000 in
theorem is_leaf_text {b0 : Bool} {x : ByteArray} {Ak Ap : Option Addr} {nk ck np cp : Nat} : Calls Tryd.prog 19 #[.iface 41 (.string x), .agg #[.int .i64 3, .bool b0, .string x, .slice Ak nk ck, .slice Ap np cp]] w fun e w' => e = .returned (.bool true) ∧ Below w.heap.size w w' := by
  have HB1 : Hid (∀ o, Below w.heap.size w (w.alloc o)) := fun o => (Below.refl _ _).alloc (Nat.le_refl _) _
  have HB2 : Hid (∀ o o', Below w.heap.size w ((w.alloc o).alloc o')) := fun o o' => (HB1.out o).alloc (by simp) _
  have HB3 : Hid (∀ o o' o'', Below w.heap.size w (((w.alloc o).alloc o').alloc o'')) := fun o o' o'' => (HB2.out o o').alloc (by simp; omega) _
  have fNull := fun w => no_Null (t := 41) (by decide) (.string x) w
  have fBool := fun w => no_Bool (t := 41) (by decide) (.string x) w
  have fNumber := fun w => no_Number (t := 41) (by decide) (.string x) w
  have fText := fun w => is_Text (.string x) w
  go_enter Tryd.func19, Tryd.ntmps19
  go_wp2
  go_ret
  exact ⟨by simp, by first | exact HB1.out _ | exact HB2.out _ _ | exact HB3.out _ _ _⟩
set_option maxRecDepth 100000 in
set_option maxHeartbeats 1000000 in
theorem is_list {b0 : Bool} {x0 : ByteArray} {ps : List TR} {A Ak Ap : Option Addr} {c nk ck cp : Nat} {us : List Value} {l : List JV} {uss : List (List Value)} (ih : ∀ j ∈ l, ISJ j) (hok : okJL l = true) (hll : l.length ≤ 1048576) (hu : us.length = l.length) (hr : Rd w F A us) (he : ∀ (i : Nat) (u : Value) (j : JV), us[i]? = some u → l[i]? = some j → IsV w F u j) (hF : ∀ k, F k → k < w.heap.size)
    (hpl : ps.length = l.length) (hm : ∀ (i : Nat) (j : JV) (t : TR), l[i]? = some j → ps[i]? = some t → MJ j t) (hut : uss.length = ps.length) (hrp : Rd w G Ap uss.flatten) (het : ∀ (i : Nat) (us : List Value) (t : TR), uss[i]? = some us → ps[i]? = some t → IsT w G us t) (hG : ∀ k, G k → k < w.heap.size) :
    Calls Tryd.prog 19 #[.iface 49 (.slice A l.length c), .agg #[.int .i64 4, .bool b0, .string x0, .slice Ak nk ck, .slice Ap ps.length cp]] w fun e w' => e = .returned (.bool true) ∧ Below w.heap.size w w' := by
  rw [hpl]
  have HM := Lib.hid hm
  have HPL := Lib.hid hpl
  obtain ⟨w3, hw3⟩ : ∃ w3, w3 = w.alloc (.cells #[.int .i64 4, .bool b0, .string x0, .slice Ak nk ck, .slice Ap l.length cp] 35) := ⟨_, rfl⟩
  obtain ⟨B, hBe⟩ : ∃ B, B = w.heap.size := ⟨_, rfl⟩
  obtain ⟨n, hn⟩ : ∃ n, n = l.length := ⟨_, rfl⟩
  have H3 : Hid (Below B w w3 ∧ w3.heap[B]? = some (.cells #[.int .i64 4, .bool b0, .string x0, .slice Ak nk ck, .slice Ap n cp] 35 (0, 0)) ∧ w3.heap.size = B + 1) := by
    show _ ∧ _
    rw [hw3, hBe, hn]
    exact ⟨(Below.refl _ _).alloc (Nat.le_refl _) _, heap_alloc_new _ _, by simp⟩
  rw [← hn] at hw3 ⊢
  have HBe := Lib.hid hBe
  have HN := Lib.hid hn
  have IH := Lib.hid ih
  have HOK := Lib.hid hok
  have HU := Lib.hid hu
  have HR := Lib.hid hr
  have HE := Lib.hid he
  have HF := Lib.hid hF
  have HUT := Lib.hid hut
  have HRP := Lib.hid hrp
  have HET := Lib.hid het
  have HGG := Lib.hid hG
  have HL9 : Hid ((n : Int) ≤ 1048576) := by show _ ≤ _; omega
  have OLD : Hid (∀ wr, Below (B + 1) w3 wr → ∀ q, q < B → wr.heap[q]? = w.heap[q]?) := fun wr hb q hq => (hb.block q (by omega)).trans (H3.out.1.block q hq)
  have CELL : Hid (∀ wr, Below (B + 1) w3 wr → wr.cell? ⟨B, 4, none⟩ = some (.slice Ap n cp)) := fun wr hb => cell_of_row wr B 4 _ _ _ ((hb.block B (by have := H3.out.2.2; omega)).trans H3.out.2.1)
  clear ih hok hu hr he hF hut hrp het hG hll hm hpl hn
  have fNull := fun w => no_Null (t := 49) (by decide) (.slice A n c) w
  have fBool := fun w => no_Bool (t := 49) (by decide) (.slice A n c) w
  have fNumber := fun w => no_Number (t := 49) (by decide) (.slice A n c) w
  have fText := fun w => no_Text (t := 49) (by decide) (.slice A n c) w
  have fList := fun w => is_List (.slice A n c) w
  go_enter Tryd.func19, Tryd.ntmps19
  go_wp2_with (go_at_call 40; go_must (refine (kind_List A n c _).mono ?_; rintro e w_ ⟨rfl, hw_⟩; have hw_ := hw_.symm; subst hw_))
  rw [← hw3, ← hBe]
  clear hw3 hBe
  go_loopw [97] (fun iv wr => ∃ i : Nat, i ≤ n ∧ iv = .int .i64 (i : Int) ∧ Below (B + 1) w3 wr) (fun iv _ => n - (intOf iv).toNat)
  case atStart => exact ⟨0, Nat.zero_le _, rfl, Below.refl _ _⟩
  case round =>
    obtain ⟨i, hi, rfl, hB⟩ := hrel
    by_cases hlt : i < n
    · have hll : i < l.length := by have := HN.out; omega
      obtain ⟨j, hj⟩ : ∃ j, l[i]? = some j := ⟨_, List.getElem?_eq_getElem hll⟩
      obtain ⟨u, hu⟩ : ∃ u, us[i]? = some u := ⟨_, List.getElem?_eq_getElem (by rw [HU.out]; exact hll)⟩
      obtain ⟨tj, hjt⟩ : ∃ tj, ps[i]? = some tj := ⟨_, List.getElem?_eq_getElem (by rw [HPL.out]; exact hll)⟩
      obtain ⟨ut, b1, off1, rfl, hb1, hut, hist, h5, hcs⟩ := HRP.out.row HUT.out HET.out hjt
      have hne : us ≠ [] := by intro h0; rw [h0] at hu; simp at hu
      obtain ⟨b0, off, rfl, hb0, hc0⟩ := HR.out hne
      have hcu : wr.cell? ⟨b0, off + i, none⟩ = some u := by
        rw [World.cell?_of_block (w := w) (a := ⟨b0, off + i, none⟩) (OLD.out wr hB b0 (by rw [HBe.out]; exact HF.out b0 hb0))]
        exact hc0 i u hu
      have hrow : wr.rangeAt b1 (off1 + i * 5) ut.toArray.toList := by
        intro k x hx
        have hx' : ut[k]? = some x := hx
        rw [World.cell?_of_block (w := w) (a := ⟨b1, off1 + i * 5 + k, none⟩) (OLD.out wr hB b1 (by rw [HBe.out]; exact HGG.out b1 hb1))]
        exact hcs k x hx'
      have hz5 : (Tryd.prog.info? 35).map (·.size) = some ut.toArray.size := by
        have : ut.toArray.size = 5 := by simpa using h5
        rw [this]
        exact tree5
      have cc := CELL.out wr hB
      have hiI : (i : Int) < (n : Int) := by omega
      have hi0 : (0 : Int) ≤ (i : Int) := by omega
      have hi9 : (i : Int) + 1 ≤ 1048576 := by have := HL9.out; omega
      have hd : decide (i < n) = true := by simp; exact hlt
      have hisv := HE.out i u j hu hj
      have HCALL := Lib.hid (IH.out j (List.mem_of_getElem? hj) wr F G u ut tj (hisv.keep (fun q hq => OLD.out wr hB q (by rw [HBe.out]; exact HF.out q hq)) (fun q hq => hq)) (hist.keep (fun q hq => OLD.out wr hB q (by rw [HBe.out]; exact HGG.out q hq)) (fun q hq => hq)) (HM.out i j tj hj hjt) (fun q hq => by have h1_ := HF.out q hq; have h2_ := hB.size; have h3_ := H3.out.2.2; have h4_ := HBe.out; omega) (fun q hq => by have h1_ := HGG.out q hq; have h2_ := hB.size; have h3_ := H3.out.2.2; have h4_ := HBe.out; omega) (okJL_mem l HOK.out j (List.mem_of_getElem? hj)))
      have HCD : Hid (Calls Tryd.prog 19 #[u, .agg ut.toArray] wr.drew fun e w' => e = .returned (.bool true) ∧ Below wr.heap.size wr.drew w') := by
        exact IH.out j (List.mem_of_getElem? hj) wr.drew F G u ut tj (hisv.keep (fun q hq => OLD.out wr hB q (by rw [HBe.out]; exact HF.out q hq)) (fun q hq => hq)) (hist.keep (fun q hq => OLD.out wr hB q (by rw [HBe.out]; exact HGG.out q hq)) (fun q hq => hq)) (HM.out i j tj hj hjt) (fun q hq => by show q < wr.heap.size; have h1_ := HF.out q hq; have h2_ := hB.size; have h3_ := H3.out.2.2; have h4_ := HBe.out; omega) (fun q hq => by show q < wr.heap.size; have h1_ := HGG.out q hq; have h2_ := hB.size; have h3_ := H3.out.2.2; have h4_ := HBe.out; omega) (okJL_mem l HOK.out j (List.mem_of_getElem? hj))
      have HBR := Lib.hid hB
      have HROW : Hid (wr.drew.rangeAt b1 (off1 + i * 5) ut.toArray.toList) := hrow
      have HLT := Lib.hid hlt
      clear hi hll hj hu hjt hb1 hut hist h5 hcs hne hb0 hc0 hB hrow hisv HCALL hlt
      go_wp2
      refine wp_quiet_tail 9 (by kernel_rfl) (by kernel_rfl) ?_
      simp only [List.take_succ_cons, List.take_zero, List.drop_succ_cons, List.drop_zero]
      repeat (go_big_quiet_step (fail))
      go_big_quiet_want
      refine quiet_load_arr _ _ rfl b1 (off1 + i * 5) rfl ut.toArray _ (by with_reducible exact HROW.out) Tryd.underlying35 rfl (by with_reducible exact hz5) ?_
      go_simp
      go_big_quiet_on
      refine wpQuiet_nil ?_
      go_wp2_with (go_at_call 19; go_must (refine HCD.out.mono ?_; rintro e w5 ⟨rfl, hb5⟩; have HB5 := Lib.hid hb5; clear hb5))
      go_roundw
      case rel => exact ⟨i + 1, HLT.out, by simp, HBR.out.trans ((⟨rfl, rfl, rfl, Nat.le_refl _, fun _ _ => rfl⟩ : Below (B + 1) wr wr.drew).trans (HB5.out.mono (by have h2_ := HBR.out.size; have h3_ := H3.out.2.2; omega)))⟩
      case measure => have := HLT.out; simp [intOf]; omega
    · have hin : n = i := by omega
      subst hin
      have hd : decide (n < n) = false := by simp
      have HBR := Lib.hid hB
      clear hB hi hlt
      go_wp2
      go_ret
      exact ⟨rfl, by rw [← HBe.out]; exact H3.out.1.trans (HBR.out.mono (by omega))⟩
set_option maxRecDepth 100000 in
set_option maxHeartbeats 1000000 in
theorem is_obj {b0 : Bool} {x0 : ByteArray} {ps : List TR} {A Ak Ap : Option Addr} {c ck cp : Nat} {us : List Value} {ks : List (List UInt8)} {l : List JV} {uss : List (List Value)} (ih : ∀ j ∈ l, ISJ j) (hok : okJL l = true) (hll : l.length ≤ 1048576) (hu : us.length = l.length) (hkl : ks.length = l.length) (hr : Rd w F A (mems ks us)) (he : ∀ (i : Nat) (u : Value) (j : JV), us[i]? = some u → l[i]? = some j → IsV w F u j) (hF : ∀ k, F k → k < w.heap.size)
    (hpl : ps.length = l.length) (hm : ∀ (i : Nat) (j : JV) (t : TR), l[i]? = some j → ps[i]? = some t → MJ j t) (hut : uss.length = ps.length) (hrk : Rd w G Ak (strs ks)) (hrp : Rd w G Ap uss.flatten) (het : ∀ (i : Nat) (us : List Value) (t : TR), uss[i]? = some us → ps[i]? = some t → IsT w G us t) (hG : ∀ k, G k → k < w.heap.size) :
    Calls Tryd.prog 19 #[.iface 73 (.slice A l.length c), .agg #[.int .i64 5, .bool b0, .string x0, .slice Ak ks.length ck, .slice Ap ps.length cp]] w fun e w' => e = .returned (.bool true) ∧ Below w.heap.size w w' := by
  rw [hpl]
  have HM := Lib.hid hm
  have HPL := Lib.hid hpl
  obtain ⟨nk, hnk⟩ : ∃ nk, nk = ks.length := ⟨_, rfl⟩
  obtain ⟨n, hn⟩ : ∃ n, n = l.length := ⟨_, rfl⟩
  rw [← hn, ← hnk]
  obtain ⟨w3, hw3⟩ : ∃ w3, w3 = w.alloc (.cells #[.int .i64 5, .bool b0, .string x0, .slice Ak nk ck, .slice Ap n cp] 35) := ⟨_, rfl⟩
  obtain ⟨B, hBe⟩ : ∃ B, B = w.heap.size := ⟨_, rfl⟩
  have H3 : Hid (Below B w w3 ∧ w3.heap[B]? = some (.cells #[.int .i64 5, .bool b0, .string x0, .slice Ak nk ck, .slice Ap n cp] 35 (0, 0)) ∧ w3.heap.size = B + 1) := by
    show _ ∧ _
    rw [hw3, hBe]
    exact ⟨(Below.refl _ _).alloc (Nat.le_refl _) _, heap_alloc_new _ _, by simp⟩
  have HBe := Lib.hid hBe
  have HN := Lib.hid hn
  have HNK : Hid (nk = n) := by show _ = _; rw [hnk, hkl, hn]
  have HKL := Lib.hid hkl
  have IH := Lib.hid ih
  have HOK := Lib.hid hok
  have HU := Lib.hid hu
  have HR := Lib.hid hr
  have HE := Lib.hid he
  have HF := Lib.hid hF
  have HUT := Lib.hid hut
  have HRK := Lib.hid hrk
  have HRP := Lib.hid hrp
  have HET := Lib.hid het
  have HGG := Lib.hid hG
  have HL9 : Hid ((n : Int) ≤ 1048576) := by show _ ≤ _; omega
  have OLD : Hid (∀ wr, Below (B + 1) w3 wr → ∀ q, q < B → wr.heap[q]? = w.heap[q]?) := fun wr hb q hq => (hb.block q (by omega)).trans (H3.out.1.block q hq)
  have CELL : Hid (∀ wr, Below (B + 1) w3 wr → wr.cell? ⟨B, 3, none⟩ = some (.slice Ak nk ck) ∧ wr.cell? ⟨B, 4, none⟩ = some (.slice Ap n cp)) := fun wr hb =>
    have h1 := (hb.block B (by have := H3.out.2.2; omega)).trans H3.out.2.1
    ⟨cell_of_row wr B 3 _ _ _ h1, cell_of_row wr B 4 _ _ _ h1⟩
  clear ih hok hu hr he hF hut hrp het hG hll hm hpl hn hnk hkl hrk
  have fNull := fun w => no_Null (t := 73) (by decide) (.slice A n c) w
  have fBool := fun w => no_Bool (t := 73) (by decide) (.slice A n c) w
  have fNumber := fun w => no_Number (t := 73) (by decide) (.slice A n c) w
  have fText := fun w => no_Text (t := 73) (by decide) (.slice A n c) w
  have fList := fun w => no_List (t := 73) (by decide) (.slice A n c) w
  have fObject := fun w => is_Object (.slice A n c) w
  go_enter Tryd.func19, Tryd.ntmps19
  go_wp2_with (go_at_call 41; go_must (refine (kind_Object A n c _).mono ?_; rintro e w_ ⟨rfl, hw_⟩; have hw_ := hw_.symm; subst hw_))
  rw [← hw3, ← hBe]
  clear hw3 hBe
  go_loopw [133] (fun iv wr => ∃ i : Nat, i ≤ n ∧ iv = .int .i64 (i : Int) ∧ Below (B + 1) w3 wr) (fun iv _ => n - (intOf iv).toNat)
  case atStart => exact ⟨0, Nat.zero_le _, rfl, Below.refl _ _⟩
  case round =>
    obtain ⟨i, hi, rfl, hB⟩ := hrel
    by_cases hlt : i < n
    · have hll : i < l.length := by have := HN.out; omega
      have hlk : i < ks.length := by rw [HKL.out]; exact hll
      obtain ⟨j, hj⟩ : ∃ j, l[i]? = some j := ⟨_, List.getElem?_eq_getElem hll⟩
      obtain ⟨u, hu⟩ : ∃ u, us[i]? = some u := ⟨_, List.getElem?_eq_getElem (by rw [HU.out]; exact hll)⟩
      obtain ⟨key, hkey⟩ : ∃ key, ks[i]? = some key := ⟨_, List.getElem?_eq_getElem hlk⟩
      obtain ⟨KB, hKB⟩ : ∃ KB : ByteArray, KB = ⟨key.toArray⟩ := ⟨_, rfl⟩
      obtain ⟨tj, hjt⟩ : ∃ tj, ps[i]? = some tj := ⟨_, List.getElem?_eq_getElem (by rw [HPL.out]; exact hll)⟩
      obtain ⟨ut, b1, off1, rfl, hb1, hut, hist, h5, hcs⟩ := HRP.out.row HUT.out HET.out hjt
      have hmg := mems_get ks us i key u hkey hu
      have hne : mems ks us ≠ [] := by
        intro h0
        have := hmg 0 _ rfl
        rw [h0] at this
        simp at this
      obtain ⟨b0, off, rfl, hb0, hc0⟩ := HR.out hne
      have hsg := strs_get ks i key hkey
      obtain ⟨b2, off2, rfl, hb2, hc2⟩ := HRK.out (by intro h0; rw [h0] at hsg; simp at hsg)
      have hck : wr.cell? ⟨b0, off + i * 2, none⟩ = some (.string KB) := by
        rw [World.cell?_of_block (w := w) (a := ⟨b0, off + i * 2, none⟩) (OLD.out wr hB b0 (by rw [HBe.out]; exact HF.out b0 hb0)), hKB]
        exact hc0 (i * 2) _ (by have h_ := hmg 0 _ rfl; simpa using h_)
      have hcu : wr.cell? ⟨b0, off + i * 2 + 1, none⟩ = some u := by
        rw [World.cell?_of_block (w := w) (a := ⟨b0, off + i * 2 + 1, none⟩) (OLD.out wr hB b0 (by rw [HBe.out]; exact HF.out b0 hb0)), Nat.add_assoc]
        exact hc0 (i * 2 + 1) _ (hmg 1 _ rfl)
      have hcy : wr.cell? ⟨b2, off2 + i, none⟩ = some (.string KB) := by
        rw [World.cell?_of_block (w := w) (a := ⟨b2, off2 + i, none⟩) (OLD.out wr hB b2 (by rw [HBe.out]; exact HGG.out b2 hb2)), hKB]
        exact hc2 i _ hsg
      have hrow : wr.rangeAt b1 (off1 + i * 5) ut.toArray.toList := by
        intro k x hx
        have hx' : ut[k]? = some x := hx
        rw [World.cell?_of_block (w := w) (a := ⟨b1, off1 + i * 5 + k, none⟩) (OLD.out wr hB b1 (by rw [HBe.out]; exact HGG.out b1 hb1))]
        exact hcs k x hx'
      have hz5 : (Tryd.prog.info? 35).map (·.size) = some ut.toArray.size := by
        have : ut.toArray.size = 5 := by simpa using h5
        rw [this]
        exact tree5
      obtain ⟨cc3, cc⟩ := CELL.out wr hB
      have hiI : (i : Int) < (n : Int) := by omega
      have hiK : (i : Int) < (nk : Int) := by have := HNK.out; omega
      have hi0 : (0 : Int) ≤ (i : Int) := by omega
      have hi9 : (i : Int) + 1 ≤ 1048576 := by have := HL9.out; omega
      have hd : decide (i < n) = true := by simp; exact hlt
      have teq : (KB.toList != KB.toList) = false := by simp
      have hisv := HE.out i u j hu hj
      have hu1 := hisv.one
      have HCD : Hid (Calls Tryd.prog 19 #[u, .agg ut.toArray] wr.drew fun e w' => e = .returned (.bool true) ∧ Below wr.heap.size wr.drew w') := by
        exact IH.out j (List.mem_of_getElem? hj) wr.drew F G u ut tj (hisv.keep (fun q hq => OLD.out wr hB q (by rw [HBe.out]; exact HF.out q hq)) (fun q hq => hq)) (hist.keep (fun q hq => OLD.out wr hB q (by rw [HBe.out]; exact HGG.out q hq)) (fun q hq => hq)) (HM.out i j tj hj hjt) (fun q hq => by show q < wr.heap.size; have h1_ := HF.out q hq; have h2_ := hB.size; have h3_ := H3.out.2.2; have h4_ := HBe.out; omega) (fun q hq => by show q < wr.heap.size; have h1_ := HGG.out q hq; have h2_ := hB.size; have h3_ := H3.out.2.2; have h4_ := HBe.out; omega) (okJL_mem l HOK.out j (List.mem_of_getElem? hj))
      have HBR := Lib.hid hB
      have HROW : Hid (wr.drew.rangeAt b1 (off1 + i * 5) ut.toArray.toList) := hrow
      have HLT := Lib.hid hlt
      clear hi hll hj hu hjt hb1 hut hist h5 hcs hne hb0 hc0 hB hrow hisv hlt hkey hKB hlk hmg hsg hb2 hc2
      go_wp2
      refine wp_quiet_tail 22 (by kernel_rfl) (by kernel_rfl) ?_
      simp only [List.take_succ_cons, List.take_zero, List.drop_succ_cons, List.drop_zero]
      repeat (go_big_quiet_step (fail))
      go_big_quiet_want
      refine quiet_load_arr _ _ rfl b1 (off1 + i * 5) rfl ut.toArray _ (by with_reducible exact HROW.out) Tryd.underlying35 rfl (by with_reducible exact hz5) ?_
      go_simp
      go_big_quiet_on
      refine wpQuiet_nil ?_
      go_wp2_with (go_at_call 19; go_must (refine HCD.out.mono ?_; rintro e w5 ⟨rfl, hb5⟩; have HB5 := Lib.hid hb5; clear hb5))
      go_roundw
      case rel => exact ⟨i + 1, HLT.out, by simp, HBR.out.trans ((⟨rfl, rfl, rfl, Nat.le_refl _, fun _ _ => rfl⟩ : Below (B + 1) wr wr.drew).trans (HB5.out.mono (by have h2_ := HBR.out.size; have h3_ := H3.out.2.2; omega)))⟩
      case measure => have := HLT.out; simp [intOf]; omega
    · have hin : n = i := by omega
      subst hin
      have hd : decide (n < n) = false := by simp
      have HBR := Lib.hid hB
      clear hB hi hlt
      go_wp2
      go_ret
      exact ⟨rfl, by rw [← HBe.out]; exact H3.out.1.trans (HBR.out.mono (by omega))⟩
end
theorem is_all : ∀ (n : Nat) (j : JV), SizeOf.sizeOf j ≤ n → ISJ j
  | 0, j, hn => by cases j <;> simp at hn
  | n + 1, j, hn => by
    intro w F G v us t hv hT hM hF hG hok
    cases hT with
    | mk k b s Ak ck ks' Ap cp uss ps hu' hk' hp' he' =>
    cases hv with
    | nil => simp [MJ] at hM
    | null =>
      rw [MJ] at hM
      subst hM
      exact is_leaf_null
    | bool x =>
      rw [MJ] at hM
      obtain ⟨rfl, rfl⟩ := hM
      exact is_leaf_bool
    | num x =>
      rw [MJ] at hM
      obtain ⟨rfl, rfl⟩ := hM
      exact is_leaf_num
    | text x =>
      rw [MJ] at hM
      obtain ⟨rfl, rfl⟩ := hM
      exact is_leaf_text
    | list A c us l' hu hr he =>
      rw [MJ] at hM
      obtain ⟨rfl, hM⟩ := hM
      rw [okJ, Bool.and_eq_true, decide_eq_true_eq] at hok
      refine is_list (fun j hj => is_all n j ?_) hok.2 hok.1 hu hr he hF (MJL_len _ _ hM) (MJL_get _ _ hM) hu' hp' he' hG
      have := List.sizeOf_lt_of_mem hj
      simp at hn
      omega
    | obj A c us ks l' hu hk hr he =>
      rw [MJ] at hM
      obtain ⟨rfl, rfl, hM⟩ := hM
      rw [okJ, Bool.and_eq_true, decide_eq_true_eq] at hok
      refine is_obj (fun j hj => is_all n j ?_) hok.2 hok.1 hu hk hr he hF (MJL_len _ _ hM) (MJL_get _ _ hM) hu' hk' hp' he' hG
      have := List.sizeOf_lt_of_mem hj
      simp at hn
      omega
/-- The law's is, of a value and a tree that it is. -/
theorem is_any {w : World} {F G : Nat → Prop} {v : Value} {us : List Value} {j : JV} {t : TR} (hv : IsV w F v j) (hT : IsT w G us t) (hM : MJ j t) (hF : ∀ k, F k → k < w.heap.size) (hG : ∀ k, G k → k < w.heap.size) (hok : okJ j = true) : Calls Tryd.prog 19 #[v, .agg us.toArray] w fun e w' => e = .returned (.bool true) ∧ Below w.heap.size w w' :=
  is_all (SizeOf.sizeOf j) j (Nat.le_refl _) w F G v us t hv hT hM hF hG hok
mutual
theorem jt_MJ : ∀ j : JV, okJ j = true → MJ j (jt j)
  | .nil, h => by simp [okJ] at h
  | .null, _ => by simp [jt, MJ]
  | .bool _, _ => by simp [jt, MJ]
  | .num _, _ => by simp [jt, MJ]
  | .text _, _ => by simp [jt, MJ]
  | .list l, h => by
    rw [okJ, Bool.and_eq_true] at h
    rw [jt, MJ]
    exact ⟨rfl, jtL_MJL l h.2⟩
  | .obj ks l, h => by
    rw [okJ, Bool.and_eq_true] at h
    rw [jt, MJ]
    exact ⟨rfl, rfl, jtL_MJL l h.2⟩
theorem jtL_MJL : ∀ l : List JV, okJL l = true → MJL l (jtL l)
  | [], _ => by simp [jtL, MJL]
  | j :: l, h => by
    rw [okJL, Bool.and_eq_true] at h
    rw [jtL, MJL]
    exact ⟨jt_MJ j h.1, jtL_MJL l h.2⟩
end
end Go.Proofs.YtkbopeoaoakfnaaDoor

namespace Go.Proofs.YtkbopeoaoakfnaaDoor
open Go.RowKit
theorem sees_lt {st : PS} {s : List UInt8} {c : UInt8} (h : st.sees s c = true) : st.at_ < s.length := by
  unfold PS.sees at h
  rcases Nat.lt_or_ge st.at_ s.length with h' | h'
  · exact h'
  · rw [List.getElem?_eq_none h'] at h; cases h
section
variable {α : Type} {s : List UInt8} {e : UInt8} {one : α → PS → α × PS} {n : Nat}
/-- What holds of each part that was read holds of all. -/
theorem loop_inv {I J : α → Nat → Prop} (hle : ∀ x S, S.at_ ≤ (one x S).2.at_) (hstep : ∀ x S, S.fault = none → s.length - S.at_ < n → I x S.at_ → (one x S).2.fault = none → J (one x S).1 S.at_) (hJI : ∀ y a b, J y a → a + 1 ≤ b → I y b) :
    ∀ (m : Nat) (x : α) (S : PS), S.fault = none → s.length - S.at_ < n → s.length - S.at_ < m → I x S.at_ → (loopP s e one m x S).2.fault = none → ∃ a, a < s.length ∧ J (loopP s e one m x S).1 a
  | 0, _, _, _, _, hm, _, _ => absurd hm (Nat.not_lt_zero _)
  | m + 1, x, S, hf, hn, hm, hI, hend => by
    have h1 : (one x S).2.fault = none := by
      cases h : (one x S).2.fault with
      | none => rfl
      | some a =>
        have h2 := loopP_bad1 (s := s) (e := e) (m := m) (x := x) (S := S) (one := one) (by rw [h]; simp)
        rw [hend, h] at h2
        cases h2
    have hJ := hstep x S hf hn hI h1
    have h3 := hle x S
    have h4 := PS.blanks_le (one x S).2 s
    cases h2 : ((one x S).2.blanks s).sees s e with
    | true =>
      rw [loopP_end h1 h2]
      have h5 := sees_lt h2
      exact ⟨S.at_, by omega, hJ⟩
    | false =>
      cases h5 : ((one x S).2.blanks s).sees s 44 with
      | false =>
        have h6 := loopP_bad2 (m := m) h1 h2 h5
        rw [hend] at h6
        cases h6
      | true =>
        have h7 := sees_lt h5
        have h8 := PS.blanks_le (((one x S).2.blanks s).to (((one x S).2.blanks s).at_ + 1)) s
        have h9 : ((one x S).2.blanks s).at_ + 1 ≤ ((((one x S).2.blanks s).to (((one x S).2.blanks s).at_ + 1)).blanks s).at_ := h8
        rw [loopP_next h1 h2 h5] at hend ⊢
        exact loop_inv hle hstep hJI m _ _ h1 (by omega) (by omega) (hJI _ _ _ hJ (by omega)) hend
theorem mem_inv {I J : α → Nat → Prop} {st : PS} {x : α} (hle : ∀ x S, S.at_ ≤ (one x S).2.at_) (hstep : ∀ x S, S.fault = none → s.length - S.at_ < n → I x S.at_ → (one x S).2.fault = none → J (one x S).1 S.at_) (hJI : ∀ y a b, J y a → a + 1 ≤ b → I y b)
    (hlt : st.at_ < s.length) (hn : s.length - st.at_ ≤ n) (hI : ∀ a, I x a) (hend : (memP s e one n x st).2.fault = none) : (memP s e one n x st).1 = x ∨ ∃ a, a < s.length ∧ J (memP s e one n x st).1 a := by
  have ho := PS.open_le st s
  unfold memP at hend ⊢
  split
  · exact .inl rfl
  · rename_i h1
    rw [if_neg h1] at hend
    split
    · rename_i h2
      rw [if_pos h2] at hend
      exact .inr (loop_inv hle hstep hJI n x _ h2 (by omega) (by omega) (hI _) hend)
    · exact .inl rfl
end
theorem okJL_snoc : ∀ (l : List JV) (j : JV), okJL l = true → okJ j = true → okJL (l ++ [j]) = true
  | [], j, _, h => by simp [okJL, h]
  | a :: l, j, h1, h2 => by
    rw [okJL, Bool.and_eq_true] at h1
    rw [List.cons_append, okJL, h1.1, okJL_snoc l j h1.2 h2]
    rfl
/-- What an object's part leaves without a fault. -/
theorem objOne_good {s : List UInt8} {n : Nat} {x : List (List UInt8) × List JV} {S : PS} (h : (objOne s (valP s n) x S).2.fault = none) :
    (S.text s).fault = none ∧ S.textV s ∉ x.1 ∧ ((S.text s).blanks s).sees s 58 = true ∧ objOne s (valP s n) x S = ((x.1 ++ [S.textV s], x.2 ++ [(valP s n ((((S.text s).blanks s).to (((S.text s).blanks s).at_ + 1)).blanks s)).1]), (valP s n ((((S.text s).blanks s).to (((S.text s).blanks s).at_ + 1)).blanks s)).2) := by
  have h1 : (S.text s).fault = none := by
    cases h2 : (S.text s).fault with
    | none => rfl
    | some a =>
      have h3 := objOne_text (n := n) (x := x) (S := S) (s := s) (by rw [h2]; simp)
      rw [h, h2] at h3
      cases h3
  have h2 : S.textV s ∉ x.1 := fun hm => by
    have h3 := objOne_dup (n := n) h1 hm
    rw [h] at h3
    cases h3
  have h4 : ((S.text s).blanks s).sees s 58 = true := by
    cases h5 : ((S.text s).blanks s).sees s 58 with
    | true => rfl
    | false =>
      have h3 := objOne_colon (n := n) h1 h2 h5
      rw [h] at h3
      cases h3
  exact ⟨h1, h2, h4, objOne_ok h2 h4⟩
theorem objOne_le (s : List UInt8) (n : Nat) (x : List (List UInt8) × List JV) (S : PS) : S.at_ ≤ (objOne s (valP s n) x S).2.at_ :=
  Nat.le_trans (Nat.le_trans (PS.key_le S s x.1) (PS.colon_le _ _)) (valP_le s n _)
theorem valP_ok (s : List UInt8) (hs : s.length ≤ 8192) : ∀ (n : Nat) (st : PS), st.fault = none → s.length - st.at_ < n → (valP s n st).2.fault = none → okJ (valP s n st).1 = true
  | 0, _, _, h, _ => absurd h (Nat.not_lt_zero _)
  | n + 1, st, hf, hn, hend => by
    cases hc : s[st.at_]? with
    | none => rw [valP_none hf hc]; simp [okJ]
    | some c =>
      have hlt : st.at_ < s.length := by
        rcases Nat.lt_or_ge st.at_ s.length with h' | h'
        · exact h'
        · rw [List.getElem?_eq_none h'] at hc; cases hc
      have ih := valP_ok s hs n
      rw [valP_some hf hc] at hend ⊢
      by_cases n1 : c = 123
      · rw [if_pos n1] at hend ⊢
        have h1 := mem_inv (s := s) (e := 125) (one := objOne s (valP s n)) (n := n) (st := st) (x := ([], [])) (I := fun x a => okJL x.2 = true ∧ x.2.length ≤ a) (J := fun x a => okJL x.2 = true ∧ x.2.length ≤ a + 1) (objOne_le s n)
          (fun x S hSf hSn hI he => by
            obtain ⟨g1, g2, g3, g4⟩ := objOne_good he
            rw [g4] at he ⊢
            have l1 := PS.text_le S s
            have l2 := PS.blanks_le (S.text s) s
            have l3 := PS.blanks_le (((S.text s).blanks s).to (((S.text s).blanks s).at_ + 1)) s
            have l4 : ((S.text s).blanks s).at_ + 1 ≤ ((((S.text s).blanks s).to (((S.text s).blanks s).at_ + 1)).blanks s).at_ := l3
            refine ⟨okJL_snoc _ _ hI.1 (ih _ ?_ (by omega) he), by rw [List.length_append]; simp; exact hI.2⟩
            exact g1)
          (fun y a b h h2 => ⟨h.1, by have := h.2; omega⟩) hlt (by omega) (fun a => ⟨rfl, Nat.zero_le _⟩) hend
        rw [okJ, Bool.and_eq_true, decide_eq_true_eq]
        rcases h1 with h1 | ⟨a, h1, h2, h3⟩
        · rw [h1]; exact ⟨by simp, rfl⟩
        · exact ⟨by omega, h2⟩
      rw [if_neg n1] at hend ⊢
      by_cases n2 : c = 91
      · rw [if_pos n2] at hend ⊢
        have h1 := mem_inv (s := s) (e := 93) (one := listOne (valP s n)) (n := n) (st := st) (x := []) (I := fun x a => okJL x = true ∧ x.length ≤ a) (J := fun x a => okJL x = true ∧ x.length ≤ a + 1) (fun x S => valP_le s n S)
          (fun x S hSf hSn hI he => ⟨okJL_snoc _ _ hI.1 (ih _ hSf hSn he), by show (x ++ [_]).length ≤ _; rw [List.length_append]; simp; exact hI.2⟩)
          (fun y a b h h2 => ⟨h.1, by have := h.2; omega⟩) hlt (by omega) (fun a => ⟨rfl, Nat.zero_le _⟩) hend
        rw [okJ, Bool.and_eq_true, decide_eq_true_eq]
        rcases h1 with h1 | ⟨a, h1, h2, h3⟩
        · rw [h1]; exact ⟨by simp, rfl⟩
        · exact ⟨by omega, h2⟩
      rw [if_neg n2] at hend ⊢
      split
      · simp [okJ]
      split
      · simp [okJ]
      split
      · simp [okJ]
      split
      · simp [okJ]
      · simp [okJ]
/-- A parser's place and its fault's are in the text; its faults are ErrForm or ErrLarge. -/
def FE (s : List UInt8) (st : PS) : Prop := st.at_ ≤ s.length ∧ ∀ a, st.fault = some a → (a.2 = 2 ∨ a.2 = 6) ∧ 0 ≤ a.1 ∧ a.1 ≤ (s.length : Int)
section
variable {s : List UInt8} {st : PS}
theorem FE.fail (h : FE s st) {k : Nat} {e : Int} (hk : k ≤ s.length) (he : e = 2 ∨ e = 6) : FE s (st.fail (k : Int) e) := by
  refine ⟨by rw [PS.fail_at]; exact h.1, fun a ha => ?_⟩
  cases hf : st.fault with
  | none =>
    rw [PS.fail_none hf] at ha
    cases ha
    exact ⟨he, by simp, by simp; exact hk⟩
  | some b =>
    rw [PS.fail_some (by rw [hf]; simp)] at ha
    exact h.2 a ha
theorem FE.to (h : FE s st) {k : Nat} (hk : k ≤ s.length) : FE s (st.to k) := ⟨hk, h.2⟩
theorem FE.next (h : FE s st) (c : UInt8) : FE s (st.next s c) := by
  unfold PS.next
  split
  · rename_i hs; exact ⟨sees_lt hs, h.2⟩
  · exact h
theorem FE.must (h : FE s st) (c : UInt8) : FE s (st.must s c) := by
  unfold PS.must
  split
  · rename_i hs; exact ⟨sees_lt hs, h.2⟩
  · exact h.fail h.1 (.inl rfl)
theorem run_le (p : UInt8 → Bool) (h : st.at_ ≤ s.length) : st.at_ + runB p (s.drop st.at_) ≤ s.length := by
  have := run_drop p (s.drop st.at_)
  rw [List.length_drop] at this
  omega
theorem FE.blanks (h : FE s st) : FE s (st.blanks s) := h.to (run_le _ h.1)
theorem FE.digits (h : FE s st) : FE s (st.digits s) := by
  unfold PS.digits
  split
  · exact h.fail h.1 (.inl rfl)
  · exact h.to (run_le _ h.1)
theorem FE.numb (h : FE s st) : FE s (st.numb s) := by
  have hA : ∀ a : PS, FE s a → FE s (a.numA s) := fun a h => by
    unfold PS.numA
    split
    · exact (h.next _).next _
    · exact (h.next _).digits
  have hB : ∀ a : PS, FE s a → FE s (a.numB s) := fun a h => by
    unfold PS.numB
    split
    · exact (h.next _).digits
    · exact h
  have hD : ∀ a : PS, FE s a → FE s (a.numD s) := fun a h => by
    unfold PS.numD
    split
    · exact (h.next _).digits
    · exact (h.next _).digits
  have hC : ∀ a : PS, FE s a → FE s (a.numC s) := fun a h => by
    unfold PS.numC
    split
    · exact hD _ (h.next _)
    · split
      · exact hD _ (h.next _)
      · exact h
  exact hC _ (hB _ (hA _ h))
theorem FE.word : ∀ (w : List UInt8) {st : PS}, FE s st → FE s (st.word s w)
  | [], _, h => h
  | c :: w, st, h => by
    unfold PS.word
    split
    · exact FE.word w (h.must c)
    · exact h.must c
theorem escP_len {k : Nat} {x : List UInt8} {k' : Nat} (h : escP s k = some (x, k')) : k' ≤ s.length := by
  unfold escP at h
  split at h
  · rename_i b hb
    cases h
    cases hc : s[k + 1]? with
    | none => rw [hc] at hb; cases hb
    | some c =>
      rcases Nat.lt_or_ge (k + 1) s.length with h' | h'
      · omega
      · rw [List.getElem?_eq_none h'] at hc; cases hc
  · unfold escU at h
    split at h
    · rename_i h1
      split at h
      · rename_i h2
        cases h
        have := codeP_len (s := s) (k := k + 6) (by omega)
        omega
      · cases h
    · split at h
      · cases h
      · rename_i h1 h2
        cases h
        have := codeP_len (s := s) (k := k) (by omega)
        omega
theorem textP_len : ∀ (n k : Nat) (out : List UInt8), k ≤ s.length → (textP s n k out).2 ≤ s.length
  | 0, _, _, h => h
  | n + 1, k, out, h => by
    unfold textP
    split
    · exact h
    · rename_i c hc
      have hlt : k < s.length := by
        rcases Nat.lt_or_ge k s.length with h' | h'
        · exact h'
        · rw [List.getElem?_eq_none h'] at hc; cases hc
      split
      · exact hlt
      · split
        · exact h
        · split
          · split
            · exact h
            · rename_i he
              exact textP_len n _ _ (escP_len he)
          · split
            · exact h
            · have h1 := runeW_le (s.drop k)
              rw [List.length_drop] at h1
              exact textP_len n _ _ (by omega)
theorem FE.text (h : FE s st) : FE s (st.text s) := by
  have h1 := h.must 34
  have h2 : (st.textOf s).2 ≤ s.length := textP_len _ _ _ h1.1
  unfold PS.text
  split
  · split
    · exact h1.to h2
    · exact (h1.to h2).fail h2 (.inl rfl)
  · exact h1
theorem FE.open_ (h : FE s st) (hlt : st.at_ < s.length) : FE s (st.open_ s) := by
  have h1 : FE s st.openA := by
    unfold PS.openA
    split
    · exact FE.fail (st := st.deeper) ⟨h.1, h.2⟩ h.1 (.inr rfl)
    · exact ⟨h.1, h.2⟩
  exact (h1.to hlt).blanks
theorem FE.key (h : FE s st) (ks : List (List UInt8)) : FE s (st.key s ks) := by
  unfold PS.key
  split
  · exact h.text.fail h.1 (.inl rfl)
  · exact h.text
theorem FE.colon (h : FE s st) : FE s (st.colon s) := ((h.blanks).must _).blanks
end
section
variable {α : Type} {s : List UInt8} {e : UInt8} {one : α → PS → α × PS}
theorem loop_FE (h : ∀ x S, FE s S → FE s (one x S).2) : ∀ (m : Nat) (x : α) (S : PS), FE s S → FE s (loopP s e one m x S).2
  | 0, _, _, hS => hS
  | m + 1, x, S, hS => by
    have h1 := (h x S hS).blanks
    unfold loopP
    split
    · split
      · exact h1.next _
      · split
        · exact loop_FE h m _ _ (h1.must _).blanks
        · exact (h1.must _).blanks
    · exact h1
theorem mem_FE (h : ∀ x S, FE s S → FE s (one x S).2) {n : Nat} {x : α} {st : PS} (hst : FE s st) (hlt : st.at_ < s.length) : FE s (memP s e one n x st).2 := by
  have ho := hst.open_ hlt
  unfold memP
  split
  · exact ⟨(ho.next _).1, (ho.next _).2⟩
  · split
    · exact ⟨(loop_FE h n x _ ho).1, (loop_FE h n x _ ho).2⟩
    · exact ⟨ho.1, ho.2⟩
end
theorem valP_FE (s : List UInt8) : ∀ (n : Nat) (st : PS), FE s st → FE s (valP s n st).2
  | 0, _, h => h
  | n + 1, st, h => by
    have ih := valP_FE s n
    by_cases hf : st.fault = none
    · cases hc : s[st.at_]? with
      | none => rw [valP_none hf hc]; exact (h.fail h.1 (.inl rfl)).numb
      | some c =>
        have hlt : st.at_ < s.length := by
          rcases Nat.lt_or_ge st.at_ s.length with h' | h'
          · exact h'
          · rw [List.getElem?_eq_none h'] at hc; cases hc
        rw [valP_some hf hc]
        split
        · exact mem_FE (s := s) (e := 125) (one := objOne s (valP s n)) (fun x S hS => ih _ (hS.key _).colon) h hlt
        split
        · exact mem_FE (s := s) (e := 93) (one := listOne (valP s n)) (fun x S hS => ih _ hS) h hlt
        split
        · exact h.text
        split
        · exact h.word _
        split
        · exact h.word _
        split
        · exact h.word _
        · exact h.numb
    · rw [valP_fault hf]; exact h
theorem bodyP_FE (s : List UInt8) : FE s (bodyP s).2 := valP_FE s _ _ (FE.blanks ⟨Nat.zero_le _, fun a h => by cases h⟩)
/-- What Parse answers: a whole value and 0, or nil, a place in the text and ErrForm or ErrLarge. -/
theorem parseP_cases (s : List UInt8) : ((parseP s).2.2 = 0 ∧ okJ (parseP s).1 = true ∧ parseP s = ((bodyP s).1, 0, 0) ∧ (bodyP s).2.fault = none ∧ s.length ≤ 8192) ∨ (((parseP s).2.2 = 2 ∨ (parseP s).2.2 = 6) ∧ (parseP s).1 = .nil ∧ 0 ≤ (parseP s).2.1 ∧ (parseP s).2.1 ≤ (s.length : Int)) := by
  by_cases hbig : 8192 < s.length
  · refine .inr ?_
    unfold parseP
    rw [if_pos hbig]
    exact ⟨.inr rfl, rfl, by simp, by simp⟩
  · have hFE := bodyP_FE s
    cases hf : (bodyP s).2.fault with
    | some a =>
      rw [parseP_fault hbig hf]
      have h1 := hFE.2 a hf
      exact .inr ⟨h1.1, rfl, h1.2.1, h1.2.2⟩
    | none =>
      by_cases hl : ((bodyP s).2.blanks s).at_ < s.length
      · rw [parseP_more hbig hf hl]
        exact .inr ⟨.inl rfl, rfl, by simp, by simp; omega⟩
      · have h1 := parseP_ok hbig hf hl
        rw [h1]
        exact .inl ⟨rfl, valP_ok s (by omega) _ _ rfl (by omega) hf, rfl, rfl, by omega⟩
end Go.Proofs.YtkbopeoaoakfnaaDoor
