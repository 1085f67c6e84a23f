/- The texts RW3 of this work, merged by wip/merge.py. No conditions. -/
import Derived.Test.YtkbopeoaoakfnaaDoorQXA
import Derived.Test.YtkbopeoaoakfnaaDoorQRA
namespace Go.Proofs.YtkbopeoaoakfnaaDoor
open Go.RowKit
theorem ba_nz {X : ByteArray} (h : X.size ≠ 0) : ¬ X = ByteArray.empty := fun e => h (by rw [e]; rfl)
theorem take_step {d : List UInt8} {i : Nat} (h : i < d.length) : valD 0 (d.take (i + 1)) = valD 0 (d.take i) * 10 + ((d.getD i 0).toNat - 48) := by
  rw [List.take_add_one, List.getElem?_eq_getElem h, Option.toList_some, valD_app]
  simp [List.getD, List.getElem?_eq_getElem h]
theorem val_18 {d : List UInt8} {i : Nat} (h : ∀ c ∈ d.take i, digitB c = true) (hl : i ≤ d.length) : valD 0 (d.take i) < 10 ^ i := by
  have := valD_lt (d.take i) 0 h
  rwa [List.length_take, Nat.min_eq_left hl, Nat.zero_add, Nat.one_mul] at this
def RBad (neg : Bool) (d : List UInt8) : Prop := d = [] ∨ 19 < d.length ∨ (d.head? = some 48 ∧ (1 < d.length ∨ neg = true))
section
variable {neg : Bool} {d : List UInt8}
theorem rwP_bad (h : RBad neg d) : rwP neg d = (0, false) := by
  unfold rwP
  exact if_pos h
theorem rwP_nd (h : ¬ RBad neg d) (hd : d.all digitB = false) : rwP neg d = (0, false) := by
  unfold rwP
  exact (if_neg h).trans (if_pos hd)
theorem rwP_min (h : ¬ RBad true d) (hd : ∀ c ∈ d, digitB c = true) (hv : valD 0 d = 9223372036854775808) : rwP true d = (-9223372036854775808, true) := by
  unfold rwP
  exact (if_neg h).trans ((if_neg (by rw [List.all_eq_true.2 hd]; simp)).trans (if_pos ⟨rfl, hv⟩))
theorem rwP_big (h : ¬ RBad neg d) (hd : ∀ c ∈ d, digitB c = true) (hm : ¬ (neg = true ∧ valD 0 d = 9223372036854775808)) (hb : 9223372036854775807 < valD 0 d) : rwP neg d = (0, false) := by
  unfold rwP
  exact (if_neg h).trans ((if_neg (by rw [List.all_eq_true.2 hd]; simp)).trans ((if_neg hm).trans (if_pos hb)))
theorem rwP_fine (h : ¬ RBad neg d) (hd : ∀ c ∈ d, digitB c = true) (hm : ¬ (neg = true ∧ valD 0 d = 9223372036854775808)) (hb : ¬ 9223372036854775807 < valD 0 d) : rwP neg d = (if neg = true then -(valD 0 d : Int) else (valD 0 d : Int), true) := by
  unfold rwP
  refine (if_neg h).trans ((if_neg (by rw [List.all_eq_true.2 hd]; simp)).trans ((if_neg hm).trans ((if_neg hb).trans ?_)))
  split <;> rfl
end
theorem pow_le {i j : Nat} (h : i ≤ j) : 10 ^ i ≤ 10 ^ j := Nat.pow_le_pow_right (by decide) h
set_option maxRecDepth 100000 in
set_option maxHeartbeats 1600000 in
theorem rw_pos (c : UInt8) (t : List UInt8) (w : World) (h45 : c ≠ 45) (hl : (c :: t).length ≤ 281474976710650) : Calls Tryd.prog 27 #[.string ⟨(c :: t).toArray⟩] w fun e w' => e = .returned (.tuple #[.int .i64 (rwP false (c :: t)).1, .bool (rwP false (c :: t)).2]) ∧ Below w.heap.size w w' := by
  obtain ⟨DB, hDB⟩ : ∃ DB : ByteArray, DB = ⟨(c :: t).toArray⟩ := ⟨_, rfl⟩
  rw [← hDB]
  have hc45 : ¬ ((c.toNat : Int) = 45) := fun e => h45 (UInt8.toNat_inj.1 (by show c.toNat = 45; omega))
  have hdz : DB.size = t.length + 1 := by rw [hDB]; simp [ByteArray.size]
  have hd0 : ∀ h0 : 0 < DB.size, DB[0]'h0 = c := by
    intro h0
    subst hDB
    rfl
  have hdi : ∀ (i : Nat) (h0 : i < DB.size), DB[i]'h0 = (c :: t).getD i 0 := by
    intro i h0
    have hi : i < (c :: t).length := by rw [List.length_cons]; omega
    subst hDB
    simp only [List.getD, List.getElem?_eq_getElem hi]
    rfl
  have HDI := Lib.hid hdi
  have HDZ := Lib.hid hdz
  have hq : (0 : Int) < (DB.size : Int) := by omega
  have hq2 : decide (0 < DB.size) = true := decide_eq_true (by omega)
  have hq0 : ((DB.size : Int) == 0) = false := beq_eq_false_iff_ne.2 (by omega)
  have hqn : ¬ DB = ByteArray.empty := ba_nz (by omega)
  clear hDB hdi
  by_cases h19 : 19 < (c :: t).length
  · have e1 : rwP false (c :: t) = (0, false) := rwP_bad (.inr (.inl h19))
    rw [e1]
    have hb : (19 : Int) < (DB.size : Int) := by rw [List.length_cons] at h19; omega
    clear hdz hl h19 e1 h45
    go_enter Tryd.func27, Tryd.ntmps27
    go_wp2
    all_goals (go_ret2; exact ⟨rfl, Below.refl _ _⟩)
  have hb : (DB.size : Int) ≤ 19 := by rw [List.length_cons] at h19; omega
  have H19 := Lib.hid (show (c :: t).length ≤ 19 by omega)
  by_cases h48 : c = 48 ∧ 1 < (c :: t).length
  · have e1 : rwP false (c :: t) = (0, false) := rwP_bad (.inr (.inr ⟨by rw [h48.1]; rfl, .inl h48.2⟩))
    rw [e1]
    have hc48 : (c.toNat : Int) = 48 := by rw [h48.1]; rfl
    have hb1 : (1 : Int) < (DB.size : Int) := by have := h48.2; rw [List.length_cons] at this; omega
    clear hdz hl h19 e1 h48 h45
    go_enter Tryd.func27, Tryd.ntmps27
    go_wp2
    go_ret2
    exact ⟨rfl, Below.refl _ _⟩
  have hnc : ¬ RBad false (c :: t) := by
    rintro (e | e | ⟨e, e2 | e2⟩)
    · cases e
    · exact h19 e
    · exact h48 ⟨by simpa using e, e2⟩
    · cases e2
  by_cases h48' : c = 48
  · have hc48 : (c.toNat : Int) = 48 := by rw [h48']; rfl
    have hb1 : ¬ (1 : Int) < (DB.size : Int) := by
      have : ¬ 1 < (c :: t).length := fun h => h48 ⟨h48', h⟩
      rw [List.length_cons] at this
      omega
    clear h48'
    obtain ⟨d, hd⟩ : ∃ d, d = c :: t := ⟨_, rfl⟩
    have hdz2 : DB.size = d.length := by rw [hd, List.length_cons]; exact hdz
    rw [← hd] at hnc H19 HDI ⊢
    have HDL := Lib.hid hdz2
    have HNC := Lib.hid hnc
    clear hdz hl h19 h48 hd hdz2 hnc h45 HDZ
    go_enter Tryd.func27, Tryd.ntmps27
    go_wp2
    go_loopw [6, 7] (fun v6 v7 wr => ∃ i : Nat, v7 = .int .i64 (i : Int) ∧ v6 = .int .u64 (valD 0 (d.take i) : Int) ∧ i ≤ d.length ∧ (∀ x ∈ d.take i, digitB x = true) ∧ Below w.heap.size w wr) (fun _ v7 _ => d.length - (match v7 with | .int _ z => z.toNat | _ => 0))
    case atStart => exact ⟨0, rfl, by simp [valD_nil], Nat.zero_le _, by simp, Below.refl _ _⟩
    case round =>
      obtain ⟨i, rfl, rfl, hi, hall, hbw⟩ := hrel
      obtain ⟨u, hu⟩ : ∃ u, u = valD 0 (d.take i) := ⟨_, rfl⟩
      have hu19 : u < 10 ^ 19 := by
        rw [hu]
        exact Nat.lt_of_lt_of_le (val_18 hall hi) (pow_le (by have := H19.out; omega))
      rw [← hu]
      by_cases hlt : i < d.length
      · have hli : (i : Int) < (DB.size : Int) := by rw [HDL.out]; omega
        have hlN : i < DB.size := by omega
        have hu18 : u < 10 ^ 18 := by
          rw [hu]
          exact Nat.lt_of_lt_of_le (val_18 hall hi) (pow_le (by have := H19.out; omega))
        have hlD : decide (i < DB.size) = true := decide_eq_true hlN
        obtain ⟨b, hbd⟩ : ∃ b, b = d.getD i 0 := ⟨_, rfl⟩
        have hix : ∀ h0 : i < DB.size, DB[i]'h0 = b := fun h0 => (HDI.out i h0).trans hbd.symm
        by_cases hdg : digitB b = true
        · have hn := digit_n hdg
          have f1 : IntKind.u64.wrap ((u : Int) * 10) = (u : Int) * 10 := IntWalk.u64_in _ ⟨by omega, by omega⟩
          have f2 : IntKind.u8.wrap ((b.toNat : Int) - 48) = (b.toNat : Int) - 48 := IntWalk.u8_in _ ⟨by omega, by omega⟩
          have f3 : IntKind.u64.wrap ((b.toNat : Int) - 48) = (b.toNat : Int) - 48 := IntWalk.u64_in _ ⟨by omega, by omega⟩
          have f4 : IntKind.u64.wrap ((u : Int) * 10 + ((b.toNat : Int) - 48)) = (u : Int) * 10 + ((b.toNat : Int) - 48) := IntWalk.u64_in _ ⟨by omega, by omega⟩
          have f5 : IntKind.i64.wrap ((i : Int) + 1) = (i : Int) + 1 := IntWalk.i64_in _ ⟨by omega, by have := H19.out; omega⟩
          have HS := Lib.hid (take_step hlt)
          have HA := Lib.hid hall
          have HLT := Lib.hid hlt
          have HU := Lib.hid hu
          have HB := Lib.hid hbd
          have HN := Lib.hid hn
          have HDG := Lib.hid hdg
          have HBW := Lib.hid hbw
          clear hu hbd hall hdg hn hi hlt hu19 hu18 hbw
          go_wp2_with (go_at_call 49; go_must (refine (digit_any b _).mono ?_; rintro e w1 ⟨rfl, hw1⟩; have hw1 := hw1.symm; subst hw1; rw [HDG.out]))
          go_roundw
          case rel =>
            refine ⟨i + 1, by first | rfl | simp, ?_, HLT.out, ?_, HBW.out⟩
            · rw [HS.out, ← HU.out, ← HB.out]
              have h1 := HN.out
              congr 1
              omega
            · intro x hx
              rw [List.take_add_one, List.getElem?_eq_getElem HLT.out, Option.toList_some] at hx
              rcases List.mem_append.1 hx with h | h
              · exact HA.out x h
              · have h2 := List.mem_singleton.1 h
                have h3 : d.getD i 0 = d[i]'HLT.out := by simp [List.getD, List.getElem?_eq_getElem HLT.out]
                rw [h2, ← h3, ← HB.out]
                exact HDG.out
          case measure =>
            have := HLT.out
            show d.length - ((i : Int) + 1).toNat < d.length - ((i : Int)).toNat
            omega
        · have hdf : digitB b = false := by simpa using hdg
          have e1 : rwP false d = (0, false) := by
            refine rwP_nd HNC.out ?_
            rw [List.all_eq_false]
            refine ⟨b, ?_, by rw [hdf]; simp⟩
            rw [hbd]
            simp only [List.getD, List.getElem?_eq_getElem hlt, Option.getD_some]
            exact List.getElem_mem hlt
          have E1 := Lib.hid e1
          have HDG := Lib.hid hdf
          have HBW := Lib.hid hbw
          clear hu hbd hall hdg hdf hi hlt hu19 hu18 hbw e1
          go_wp2_with (go_at_call 49; go_must (refine (digit_any b _).mono ?_; rintro e w1 ⟨rfl, hw1⟩; have hw1 := hw1.symm; subst hw1; rw [HDG.out]))
          go_ret2
          exact ⟨(by rw [E1.out]; try rfl), HBW.out⟩
      · have hge : ¬ (i : Int) < (DB.size : Int) := by rw [HDL.out]; omega
        have hid : d.take i = d := List.take_of_length_le (by omega)
        rw [hid] at hu hall
        have HBW := Lib.hid hbw
        by_cases hmax : 9223372036854775807 < u
        · have e1 : rwP false d = (0, false) := by
            exact rwP_big HNC.out hall (fun h => by cases h.1) (by rw [← hu]; exact hmax)
          have E1 := Lib.hid e1
          have hm2 : (9223372036854775807 : Int) < (u : Int) := by omega
          clear hu hall hi hlt hu19 hbw e1 hid hmax
          go_wp2
          go_ret2
          exact ⟨(by rw [E1.out]; try rfl), HBW.out⟩
        · have e1 : rwP false d = ((u : Int), true) := by
            rw [hu]
            exact rwP_fine HNC.out hall (fun h => by cases h.1) (by rw [← hu]; exact hmax)
          have E1 := Lib.hid e1
          have hm2 : (u : Int) ≤ 9223372036854775807 := by omega
          have f1 : IntKind.i64.wrap (u : Int) = (u : Int) := IntWalk.i64_in _ ⟨by omega, by omega⟩
          clear hu hall hi hlt hu19 hbw e1 hid hmax
          go_wp2
          go_ret2
          exact ⟨(by rw [E1.out]; try rfl), HBW.out⟩
  · have hc48 : ¬ ((c.toNat : Int) = 48) := fun e => h48' (UInt8.toNat_inj.1 (by show c.toNat = 48; omega))
    clear h48'
    obtain ⟨d, hd⟩ : ∃ d, d = c :: t := ⟨_, rfl⟩
    have hdz2 : DB.size = d.length := by rw [hd, List.length_cons]; exact hdz
    rw [← hd] at hnc H19 HDI ⊢
    have HDL := Lib.hid hdz2
    have HNC := Lib.hid hnc
    clear hdz hl h19 h48 hd hdz2 hnc h45 HDZ
    go_enter Tryd.func27, Tryd.ntmps27
    go_wp2
    go_loopw [6, 7] (fun v6 v7 wr => ∃ i : Nat, v7 = .int .i64 (i : Int) ∧ v6 = .int .u64 (valD 0 (d.take i) : Int) ∧ i ≤ d.length ∧ (∀ x ∈ d.take i, digitB x = true) ∧ Below w.heap.size w wr) (fun _ v7 _ => d.length - (match v7 with | .int _ z => z.toNat | _ => 0))
    case atStart => exact ⟨0, rfl, by simp [valD_nil], Nat.zero_le _, by simp, Below.refl _ _⟩
    case round =>
      obtain ⟨i, rfl, rfl, hi, hall, hbw⟩ := hrel
      obtain ⟨u, hu⟩ : ∃ u, u = valD 0 (d.take i) := ⟨_, rfl⟩
      have hu19 : u < 10 ^ 19 := by
        rw [hu]
        exact Nat.lt_of_lt_of_le (val_18 hall hi) (pow_le (by have := H19.out; omega))
      rw [← hu]
      by_cases hlt : i < d.length
      · have hli : (i : Int) < (DB.size : Int) := by rw [HDL.out]; omega
        have hlN : i < DB.size := by omega
        have hu18 : u < 10 ^ 18 := by
          rw [hu]
          exact Nat.lt_of_lt_of_le (val_18 hall hi) (pow_le (by have := H19.out; omega))
        have hlD : decide (i < DB.size) = true := decide_eq_true hlN
        obtain ⟨b, hbd⟩ : ∃ b, b = d.getD i 0 := ⟨_, rfl⟩
        have hix : ∀ h0 : i < DB.size, DB[i]'h0 = b := fun h0 => (HDI.out i h0).trans hbd.symm
        by_cases hdg : digitB b = true
        · have hn := digit_n hdg
          have f1 : IntKind.u64.wrap ((u : Int) * 10) = (u : Int) * 10 := IntWalk.u64_in _ ⟨by omega, by omega⟩
          have f2 : IntKind.u8.wrap ((b.toNat : Int) - 48) = (b.toNat : Int) - 48 := IntWalk.u8_in _ ⟨by omega, by omega⟩
          have f3 : IntKind.u64.wrap ((b.toNat : Int) - 48) = (b.toNat : Int) - 48 := IntWalk.u64_in _ ⟨by omega, by omega⟩
          have f4 : IntKind.u64.wrap ((u : Int) * 10 + ((b.toNat : Int) - 48)) = (u : Int) * 10 + ((b.toNat : Int) - 48) := IntWalk.u64_in _ ⟨by omega, by omega⟩
          have f5 : IntKind.i64.wrap ((i : Int) + 1) = (i : Int) + 1 := IntWalk.i64_in _ ⟨by omega, by have := H19.out; omega⟩
          have HS := Lib.hid (take_step hlt)
          have HA := Lib.hid hall
          have HLT := Lib.hid hlt
          have HU := Lib.hid hu
          have HB := Lib.hid hbd
          have HN := Lib.hid hn
          have HDG := Lib.hid hdg
          have HBW := Lib.hid hbw
          clear hu hbd hall hdg hn hi hlt hu19 hu18 hbw
          go_wp2_with (go_at_call 49; go_must (refine (digit_any b _).mono ?_; rintro e w1 ⟨rfl, hw1⟩; have hw1 := hw1.symm; subst hw1; rw [HDG.out]))
          go_roundw
          case rel =>
            refine ⟨i + 1, by first | rfl | simp, ?_, HLT.out, ?_, HBW.out⟩
            · rw [HS.out, ← HU.out, ← HB.out]
              have h1 := HN.out
              congr 1
              omega
            · intro x hx
              rw [List.take_add_one, List.getElem?_eq_getElem HLT.out, Option.toList_some] at hx
              rcases List.mem_append.1 hx with h | h
              · exact HA.out x h
              · have h2 := List.mem_singleton.1 h
                have h3 : d.getD i 0 = d[i]'HLT.out := by simp [List.getD, List.getElem?_eq_getElem HLT.out]
                rw [h2, ← h3, ← HB.out]
                exact HDG.out
          case measure =>
            have := HLT.out
            show d.length - ((i : Int) + 1).toNat < d.length - ((i : Int)).toNat
            omega
        · have hdf : digitB b = false := by simpa using hdg
          have e1 : rwP false d = (0, false) := by
            refine rwP_nd HNC.out ?_
            rw [List.all_eq_false]
            refine ⟨b, ?_, by rw [hdf]; simp⟩
            rw [hbd]
            simp only [List.getD, List.getElem?_eq_getElem hlt, Option.getD_some]
            exact List.getElem_mem hlt
          have E1 := Lib.hid e1
          have HDG := Lib.hid hdf
          have HBW := Lib.hid hbw
          clear hu hbd hall hdg hdf hi hlt hu19 hu18 hbw e1
          go_wp2_with (go_at_call 49; go_must (refine (digit_any b _).mono ?_; rintro e w1 ⟨rfl, hw1⟩; have hw1 := hw1.symm; subst hw1; rw [HDG.out]))
          go_ret2
          exact ⟨(by rw [E1.out]; try rfl), HBW.out⟩
      · have hge : ¬ (i : Int) < (DB.size : Int) := by rw [HDL.out]; omega
        have hid : d.take i = d := List.take_of_length_le (by omega)
        rw [hid] at hu hall
        have HBW := Lib.hid hbw
        by_cases hmax : 9223372036854775807 < u
        · have e1 : rwP false d = (0, false) := by
            exact rwP_big HNC.out hall (fun h => by cases h.1) (by rw [← hu]; exact hmax)
          have E1 := Lib.hid e1
          have hm2 : (9223372036854775807 : Int) < (u : Int) := by omega
          clear hu hall hi hlt hu19 hbw e1 hid hmax
          go_wp2
          go_ret2
          exact ⟨(by rw [E1.out]; try rfl), HBW.out⟩
        · have e1 : rwP false d = ((u : Int), true) := by
            rw [hu]
            exact rwP_fine HNC.out hall (fun h => by cases h.1) (by rw [← hu]; exact hmax)
          have E1 := Lib.hid e1
          have hm2 : (u : Int) ≤ 9223372036854775807 := by omega
          have f1 : IntKind.i64.wrap (u : Int) = (u : Int) := IntWalk.i64_in _ ⟨by omega, by omega⟩
          clear hu hall hi hlt hu19 hbw e1 hid hmax
          go_wp2
          go_ret2
          exact ⟨(by rw [E1.out]; try rfl), HBW.out⟩
set_option maxRecDepth 100000 in
set_option maxHeartbeats 1600000 in
theorem rw_neg (c : UInt8) (t : List UInt8) (w : World) (hl : (c :: t).length ≤ 281474976710650) : Calls Tryd.prog 27 #[.string ⟨(45 :: c :: t).toArray⟩] w fun e w' => e = .returned (.tuple #[.int .i64 (rwP true (c :: t)).1, .bool (rwP true (c :: t)).2]) ∧ Below w.heap.size w w' := by
  obtain ⟨XB, hXB⟩ : ∃ XB : ByteArray, XB = ⟨(45 :: c :: t).toArray⟩ := ⟨_, rfl⟩
  have hxz : XB.size = t.length + 2 := by rw [hXB]; simp [ByteArray.size]
  have hx0 : ∀ h0 : 0 < XB.size, XB[0]'h0 = 45 := by
    intro h0
    subst hXB
    rfl
  obtain ⟨DB, hDB⟩ : ∃ DB : ByteArray, DB = ⟨(c :: t).toArray⟩ := ⟨_, rfl⟩
  have hE : XB.extract 1 XB.size = DB := by rw [hXB, hDB, extract_drop]; rfl
  rw [← hXB]
  have hp : (0 : Int) < (XB.size : Int) := by omega
  have hp2 : decide (0 < XB.size) = true := decide_eq_true (by omega)
  have hp1 : (1 : Int) ≤ (XB.size : Int) := by omega
  clear hXB
  have hdz : DB.size = t.length + 1 := by rw [hDB]; simp [ByteArray.size]
  have hd0 : ∀ h0 : 0 < DB.size, DB[0]'h0 = c := by
    intro h0
    subst hDB
    rfl
  have hdi : ∀ (i : Nat) (h0 : i < DB.size), DB[i]'h0 = (c :: t).getD i 0 := by
    intro i h0
    have hi : i < (c :: t).length := by rw [List.length_cons]; omega
    subst hDB
    simp only [List.getD, List.getElem?_eq_getElem hi]
    rfl
  have HDI := Lib.hid hdi
  have HDZ := Lib.hid hdz
  have hq : (0 : Int) < (DB.size : Int) := by omega
  have hq2 : decide (0 < DB.size) = true := decide_eq_true (by omega)
  have hq0 : ((DB.size : Int) == 0) = false := beq_eq_false_iff_ne.2 (by omega)
  have hqn : ¬ DB = ByteArray.empty := ba_nz (by omega)
  clear hDB hdi
  by_cases h19 : 19 < (c :: t).length
  · have e1 : rwP true (c :: t) = (0, false) := rwP_bad (.inr (.inl h19))
    rw [e1]
    have hb : (19 : Int) < (DB.size : Int) := by rw [List.length_cons] at h19; omega
    clear hdz hl h19 e1 hxz
    go_enter Tryd.func27, Tryd.ntmps27
    go_wp2
    all_goals (go_ret2; exact ⟨rfl, Below.refl _ _⟩)
  have hb : (DB.size : Int) ≤ 19 := by rw [List.length_cons] at h19; omega
  have H19 := Lib.hid (show (c :: t).length ≤ 19 by omega)
  by_cases h48 : c = 48
  · have e1 : rwP true (c :: t) = (0, false) := rwP_bad (.inr (.inr ⟨by rw [h48]; rfl, .inr rfl⟩))
    rw [e1]
    have hc48 : (c.toNat : Int) = 48 := by rw [h48]; rfl
    clear hdz hl h19 e1 h48 hxz
    go_enter Tryd.func27, Tryd.ntmps27
    go_wp2
    all_goals (go_ret2; exact ⟨rfl, Below.refl _ _⟩)
  have hc48 : ¬ ((c.toNat : Int) = 48) := fun e => h48 (UInt8.toNat_inj.1 (by show c.toNat = 48; omega))
  have hnc : ¬ RBad true (c :: t) := by
    rintro (e | e | ⟨e, _⟩)
    · cases e
    · exact h19 e
    · exact h48 (by simpa using e)
  obtain ⟨d, hd⟩ : ∃ d, d = c :: t := ⟨_, rfl⟩
  have hdz2 : DB.size = d.length := by rw [hd, List.length_cons]; exact hdz
  rw [← hd] at hnc H19 HDI ⊢
  have HDL := Lib.hid hdz2
  have HNC := Lib.hid hnc
  clear hdz hl h19 h48 hd hdz2 hnc hxz HDZ
  go_enter Tryd.func27, Tryd.ntmps27
  go_wp2
  go_loopw [6, 7] (fun v6 v7 wr => ∃ i : Nat, v7 = .int .i64 (i : Int) ∧ v6 = .int .u64 (valD 0 (d.take i) : Int) ∧ i ≤ d.length ∧ (∀ x ∈ d.take i, digitB x = true) ∧ Below w.heap.size w wr) (fun _ v7 _ => d.length - (match v7 with | .int _ z => z.toNat | _ => 0))
  case atStart => exact ⟨0, rfl, by simp [valD_nil], Nat.zero_le _, by simp, Below.refl _ _⟩
  case round =>
    obtain ⟨i, rfl, rfl, hi, hall, hbw⟩ := hrel
    obtain ⟨u, hu⟩ : ∃ u, u = valD 0 (d.take i) := ⟨_, rfl⟩
    have hu19 : u < 10 ^ 19 := by
      rw [hu]
      exact Nat.lt_of_lt_of_le (val_18 hall hi) (pow_le (by have := H19.out; omega))
    rw [← hu]
    by_cases hlt : i < d.length
    · have hli : (i : Int) < (DB.size : Int) := by rw [HDL.out]; omega
      have hlN : i < DB.size := by omega
      have hu18 : u < 10 ^ 18 := by
        rw [hu]
        exact Nat.lt_of_lt_of_le (val_18 hall hi) (pow_le (by have := H19.out; omega))
      have hlD : decide (i < DB.size) = true := decide_eq_true hlN
      obtain ⟨b, hbd⟩ : ∃ b, b = d.getD i 0 := ⟨_, rfl⟩
      have hix : ∀ h0 : i < DB.size, DB[i]'h0 = b := fun h0 => (HDI.out i h0).trans hbd.symm
      by_cases hdg : digitB b = true
      · have hn := digit_n hdg
        have f1 : IntKind.u64.wrap ((u : Int) * 10) = (u : Int) * 10 := IntWalk.u64_in _ ⟨by omega, by omega⟩
        have f2 : IntKind.u8.wrap ((b.toNat : Int) - 48) = (b.toNat : Int) - 48 := IntWalk.u8_in _ ⟨by omega, by omega⟩
        have f3 : IntKind.u64.wrap ((b.toNat : Int) - 48) = (b.toNat : Int) - 48 := IntWalk.u64_in _ ⟨by omega, by omega⟩
        have f4 : IntKind.u64.wrap ((u : Int) * 10 + ((b.toNat : Int) - 48)) = (u : Int) * 10 + ((b.toNat : Int) - 48) := IntWalk.u64_in _ ⟨by omega, by omega⟩
        have f5 : IntKind.i64.wrap ((i : Int) + 1) = (i : Int) + 1 := IntWalk.i64_in _ ⟨by omega, by have := H19.out; omega⟩
        have HS := Lib.hid (take_step hlt)
        have HA := Lib.hid hall
        have HLT := Lib.hid hlt
        have HU := Lib.hid hu
        have HB := Lib.hid hbd
        have HN := Lib.hid hn
        have HDG := Lib.hid hdg
        have HBW := Lib.hid hbw
        clear hu hbd hall hdg hn hi hlt hu19 hu18 hbw
        go_wp2_with (go_at_call 49; go_must (refine (digit_any b _).mono ?_; rintro e w1 ⟨rfl, hw1⟩; have hw1 := hw1.symm; subst hw1; rw [HDG.out]))
        go_roundw
        case rel =>
          refine ⟨i + 1, by first | rfl | simp, ?_, HLT.out, ?_, HBW.out⟩
          · rw [HS.out, ← HU.out, ← HB.out]
            have h1 := HN.out
            congr 1
            omega
          · intro x hx
            rw [List.take_add_one, List.getElem?_eq_getElem HLT.out, Option.toList_some] at hx
            rcases List.mem_append.1 hx with h | h
            · exact HA.out x h
            · have h2 := List.mem_singleton.1 h
              have h3 : d.getD i 0 = d[i]'HLT.out := by simp [List.getD, List.getElem?_eq_getElem HLT.out]
              rw [h2, ← h3, ← HB.out]
              exact HDG.out
        case measure =>
          have := HLT.out
          show d.length - ((i : Int) + 1).toNat < d.length - ((i : Int)).toNat
          omega
      · have hdf : digitB b = false := by simpa using hdg
        have e1 : rwP true d = (0, false) := by
          refine rwP_nd HNC.out ?_
          rw [List.all_eq_false]
          refine ⟨b, ?_, by rw [hdf]; simp⟩
          rw [hbd]
          simp only [List.getD, List.getElem?_eq_getElem hlt, Option.getD_some]
          exact List.getElem_mem hlt
        have E1 := Lib.hid e1
        have HDG := Lib.hid hdf
        have HBW := Lib.hid hbw
        clear hu hbd hall hdg hdf hi hlt hu19 hu18 hbw e1
        go_wp2_with (go_at_call 49; go_must (refine (digit_any b _).mono ?_; rintro e w1 ⟨rfl, hw1⟩; have hw1 := hw1.symm; subst hw1; rw [HDG.out]))
        go_ret2
        exact ⟨(by rw [E1.out]; try rfl), HBW.out⟩
    · have hge : ¬ (i : Int) < (DB.size : Int) := by rw [HDL.out]; omega
      have hid : d.take i = d := List.take_of_length_le (by omega)
      rw [hid] at hu hall
      have HBW := Lib.hid hbw
      by_cases hmin : u = 9223372036854775808
      · have e1 : rwP true d = (-9223372036854775808, true) := by
          exact rwP_min HNC.out hall (by rw [← hu]; exact hmin)
        have E1 := Lib.hid e1
        have hm : (u : Int) = 9223372036854775808 := by omega
        clear hu hall hi hlt hu19 hbw e1 hid hmin
        go_wp2
        go_ret2
        exact ⟨(by rw [E1.out]; try rfl), HBW.out⟩
      have hm : ¬ (u : Int) = 9223372036854775808 := by omega
      by_cases hmax : 9223372036854775807 < u
      · have e1 : rwP true d = (0, false) := by
          exact rwP_big HNC.out hall (fun h => hmin (by rw [hu]; exact h.2)) (by rw [← hu]; exact hmax)
        have E1 := Lib.hid e1
        have hm2 : (9223372036854775807 : Int) < (u : Int) := by omega
        clear hu hall hi hlt hu19 hbw e1 hid hmin hmax
        go_wp2
        go_ret2
        exact ⟨(by rw [E1.out]; try rfl), HBW.out⟩
      · have e1 : rwP true d = (-(u : Int), true) := by
          rw [hu]
          exact rwP_fine HNC.out hall (fun h => hmin (by rw [hu]; exact h.2)) (by rw [← hu]; exact hmax)
        have E1 := Lib.hid e1
        have hm2 : (u : Int) ≤ 9223372036854775807 := by omega
        have f1 : IntKind.i64.wrap (u : Int) = (u : Int) := IntWalk.i64_in _ ⟨by omega, by omega⟩
        have f2 : IntKind.i64.wrap (-(u : Int)) = -(u : Int) := IntWalk.i64_in _ ⟨by omega, by omega⟩
        clear hu hall hi hlt hu19 hbw e1 hid hmin hmax
        go_wp2
        go_ret2
        exact ⟨(by rw [E1.out]; try rfl), HBW.out⟩
set_option maxRecDepth 100000 in
set_option maxHeartbeats 800000 in
theorem rw_nil (w : World) : Calls Tryd.prog 27 #[.string ⟨#[]⟩] w fun e w' => e = .returned (.tuple #[.int .i64 0, .bool false]) ∧ Below w.heap.size w w' := by
  go_enter Tryd.func27, Tryd.ntmps27
  go_wp2
  go_ret2
  exact ⟨rfl, Below.refl _ _⟩
set_option maxRecDepth 100000 in
set_option maxHeartbeats 800000 in
theorem rw_dash (w : World) : Calls Tryd.prog 27 #[.string ⟨#[45]⟩] w fun e w' => e = .returned (.tuple #[.int .i64 0, .bool false]) ∧ Below w.heap.size w w' := by
  go_enter Tryd.func27, Tryd.ntmps27
  go_wp2
  go_ret2
  exact ⟨rfl, Below.refl _ _⟩
theorem rwhole_any (s : List UInt8) (w : World) (hl : s.length ≤ 281474976710650) : Calls Tryd.prog 27 #[.string ⟨s.toArray⟩] w fun e w' => e = .returned (.tuple #[.int .i64 (wholeP s).1, .bool (wholeP s).2]) ∧ Below w.heap.size w w' := by
  rw [← rwhole_eq]
  match s, hl with
  | [], _ => exact rw_nil w
  | [c], hl =>
    by_cases h : c = 45
    · subst h
      exact rw_dash w
    · have := rw_pos c [] w h hl
      rwa [show rwholeP [c] = rwP false [c] from if_neg (by simpa using h)]
  | c :: d :: t, hl =>
    by_cases h : c = 45
    · subst h
      exact rw_neg d t w (by rw [List.length_cons] at hl; omega)
    · have := rw_pos c (d :: t) w h hl
      rwa [show rwholeP (c :: d :: t) = rwP false (c :: d :: t) from if_neg (by simpa using h)]
end Go.Proofs.YtkbopeoaoakfnaaDoor
