/- The texts RM1 RM2 of this work, merged by wip/merge.py. No conditions. -/
import Derived.Test.YtkbopeoaoakfnaaDoorQWA
import Derived.Recover
import Derived.Defers
import Derived.Test.YtkbopeoaoakfnaaDoorQWB
namespace Go.Proofs.YtkbopeoaoakfnaaDoor
open Go.RowKit
theorem rt_ta : Tryd.prog.rt.typeAssertionError = 15 := by kernel_rfl
noncomputable def taeO (dyn : Value) (T : TypeId) : Obj := .cells #[typeHandle Tryd.prog 30, dyn, typeHandle Tryd.prog T, strVal ""] 175
noncomputable def dynV : Value → Value
  | .iface t _ => typeHandle Tryd.prog t
  | _ => .pointer none
/-- The panic of a failed assertion. -/
noncomputable def TaeP (w : World) : Value := .iface 15 (.pointer (some ⟨w.heap.size, 0, none⟩))
def NotT (T : TypeId) (v : Value) : Prop := v = .nilIface ∨ ∃ t x, v = .iface t x ∧ t ≠ T
theorem taf_Text {v : Value} (h : NotT 41 v) (w : World) : (Instr.typeAssert v 30 41 false).run Tryd.prog w = .halt (.panic (TaeP w)) (w.alloc (taeO (dynV v) 41)) := by
  rcases h with rfl | ⟨t, x, rfl, ht⟩
  · simp [Instr.typeAssert, run_underlying Tryd.underlying41, runtimePanic, go_sem, newVar, newRow, elemOf, goPanic]
    exact ⟨rfl, rfl⟩
  · simp [Instr.typeAssert, run_underlying Tryd.underlying41, runtimePanic, go_sem, newVar, newRow, elemOf, goPanic, ht]
    exact ⟨rfl, rfl⟩
theorem taf_Object {v : Value} (h : NotT 73 v) (w : World) : (Instr.typeAssert v 30 73 false).run Tryd.prog w = .halt (.panic (TaeP w)) (w.alloc (taeO (dynV v) 73)) := by
  rcases h with rfl | ⟨t, x, rfl, ht⟩
  · simp [Instr.typeAssert, run_underlying Tryd.underlying73, runtimePanic, go_sem, newVar, newRow, elemOf, goPanic]
    exact ⟨rfl, rfl⟩
  · simp [Instr.typeAssert, run_underlying Tryd.underlying73, runtimePanic, go_sem, newVar, newRow, elemOf, goPanic, ht]
    exact ⟨rfl, rfl⟩
theorem tat_Text (x : Value) (w : World) : (Instr.typeAssert (.iface 41 x) 30 41 false).run Tryd.prog w = .ok x w := by
  simp [Instr.typeAssert, run_underlying Tryd.underlying41]
theorem tat_Object (x : Value) (w : World) : (Instr.typeAssert (.iface 73 x) 30 73 false).run Tryd.prog w = .ok x w := by
  simp [Instr.typeAssert, run_underlying Tryd.underlying73]
set_option maxRecDepth 100000 in
theorem mustText_ok (x : ByteArray) (w : World) : Calls Tryd.prog 44 #[.iface 41 (.string x)] w fun e w' => e = .returned (.string x) ∧ w' = w := by
  have f1 := fun w => tat_Text (.string x) w
  go_enter Tryd.func44, Tryd.ntmps44
  go_wp2
  go_ret
  exact ⟨rfl, rfl⟩
set_option maxRecDepth 100000 in
theorem mustText_bad {v : Value} (h : NotT 41 v) (w : World) : Calls Tryd.prog 44 #[v] w fun e w' => e = .panicked [{ v := TaeP w, recovered := false }] ∧ w' = w.alloc (taeO (dynV v) 41) := by
  have f1 := fun w => taf_Text h w
  obtain ⟨o, ho⟩ : ∃ o, o = taeO (dynV v) 41 := ⟨_, rfl⟩
  rw [← ho] at f1 ⊢
  clear ho h
  go_enter Tryd.func44, Tryd.ntmps44
  go_wp2
  exact ⟨rfl, rfl, rfl⟩
theorem tae_error (pv : Value) (w : World) : (Instr.typeAssert (.iface 15 pv) 20 93 true).run Tryd.prog w = .ok (.tuple #[.iface 15 pv, .bool true]) w := by kernel_rfl
theorem nil_error (w : World) : (Instr.typeAssert .nilIface 20 93 true).run Tryd.prog w = .ok (.tuple #[.nilIface, .bool false]) w := by kernel_rfl
theorem catchT_pan (p : Addr) (x : Bool) (pv : Value) (older : List PanicEntry) (w : World) (hc : w.cell? p = some (.bool x)) (hz : w.frozen? p = false) :
    CallsD Tryd.prog 43 #[.pointer (some p)] (.panicking ({ v := .iface 15 pv, recovered := false } :: older)) w fun e u' w' =>
      e = .returned (.tuple #[]) ∧ u' = .panicking ({ v := .iface 15 pv, recovered := true } :: older) ∧ w' = w.setCell p (.bool true) := by
  have f1 := fun w => tae_error pv w
  refine callsD_of_wpS Tryd.func43 rfl fun c₀ cs hu => ?_
  apply wpS_region
  simp [wpOpsS, go_sem, recoverD, hu, Tryd.ntmps43, f1, hc, hz, bodyPostS, results, Tryd.results43]
theorem catchT_idle (p : Addr) (x : Bool) (w : World) (hc : w.cell? p = some (.bool x)) (hz : w.frozen? p = false) :
    CallsD Tryd.prog 43 #[.pointer (some p)] .returning w fun e u' w' => e = .returned (.tuple #[]) ∧ u' = .returning ∧ w' = w.setCell p (.bool false) := by
  have f1 := fun w => nil_error w
  refine callsD_of_wpS Tryd.func43 rfl fun c₀ cs hu => ?_
  apply wpS_region
  simp [wpOpsS, go_sem, recoverD, hu, Tryd.ntmps43, f1, hc, hz, bodyPostS, results, Tryd.results43]
  cases c₀
  simp_all
theorem catchO_pan (p : Addr) (x : Bool) (pv : Value) (older : List PanicEntry) (w : World) (hc : w.cell? p = some (.bool x)) (hz : w.frozen? p = false) :
    CallsD Tryd.prog 45 #[.pointer (some p)] (.panicking ({ v := .iface 15 pv, recovered := false } :: older)) w fun e u' w' =>
      e = .returned (.tuple #[]) ∧ u' = .panicking ({ v := .iface 15 pv, recovered := true } :: older) ∧ w' = w.setCell p (.bool true) := by
  have f1 := fun w => tae_error pv w
  refine callsD_of_wpS Tryd.func45 rfl fun c₀ cs hu => ?_
  apply wpS_region
  simp [wpOpsS, go_sem, recoverD, hu, Tryd.ntmps45, f1, hc, hz, bodyPostS, results, Tryd.results45]
theorem catchO_idle (p : Addr) (x : Bool) (w : World) (hc : w.cell? p = some (.bool x)) (hz : w.frozen? p = false) :
    CallsD Tryd.prog 45 #[.pointer (some p)] .returning w fun e u' w' => e = .returned (.tuple #[]) ∧ u' = .returning ∧ w' = w.setCell p (.bool false) := by
  have f1 := fun w => nil_error w
  refine callsD_of_wpS Tryd.func45 rfl fun c₀ cs hu => ?_
  apply wpS_region
  simp [wpOpsS, go_sem, recoverD, hu, Tryd.ntmps45, f1, hc, hz, bodyPostS, results, Tryd.results45]
  cases c₀
  simp_all
set_option maxRecDepth 100000 in
theorem mustObject_ok (A : Option Addr) (n c : Nat) (w : World) : Calls Tryd.prog 46 #[.iface 73 (.slice A n c)] w fun e w' => e = .returned (.slice A n c) ∧ w' = w := by
  have f1 := fun w => tat_Object (.slice A n c) w
  go_enter Tryd.func46, Tryd.ntmps46
  go_wp2
  go_ret
  exact ⟨rfl, rfl⟩
set_option maxRecDepth 100000 in
theorem mustObject_bad {v : Value} (h : NotT 73 v) (w : World) : Calls Tryd.prog 46 #[v] w fun e w' => e = .panicked [{ v := TaeP w, recovered := false }] ∧ w' = w.alloc (taeO (dynV v) 73) := by
  have f1 := fun w => taf_Object h w
  obtain ⟨o, ho⟩ : ∃ o, o = taeO (dynV v) 73 := ⟨_, rfl⟩
  rw [← ho] at f1 ⊢
  clear ho h
  go_enter Tryd.func46, Tryd.ntmps46
  go_wp2
  exact ⟨rfl, rfl, rfl⟩
set_option maxRecDepth 100000 in
set_option maxHeartbeats 800000 in
theorem lawmustText_ok (x : ByteArray) (w : World) : Calls Tryd.prog 24 #[.iface 41 (.string x)] w fun e w' => e = .returned (.tuple #[.string x, .bool false]) ∧ Below w.heap.size w w' := by
  have hmf : ∀ (fn : Fn) (first cap : Array Value) (w : World), (Instr.makeFunc fn first cap).run Tryd.prog w = .ok (.func fn first cap) w := fun _ _ _ _ => rfl
  go_enter_defers Tryd.func24, Tryd.ntmps24
  go_wp2_with (go_at_call 44; go_must (refine (mustText_ok x _).mono ?_; rintro e w1 ⟨rfl, hw1⟩; have hw1 := hw1.symm; subst hw1))
  refine leaves_cons (f := 43) (args := #[.pointer (some ⟨w.heap.size, 0, none⟩)]) (by simp) (by simp [go_sem]) ?_
  refine (catchT_idle ⟨w.heap.size, 0, none⟩ false _ ?_ ?_).mono ?_
  · simp [go_sem]
  · simp [go_sem]
  rintro e u' w'' ⟨rfl, rfl, rfl⟩
  simp [Leaves, settle, results, Tryd.results24, go_sem]
  exact (Below.refl _ _).alloc (Nat.le_refl _) _
set_option maxRecDepth 100000 in
set_option maxHeartbeats 800000 in
theorem lawmustText_bad {v : Value} (h : NotT 41 v) (w : World) : Calls Tryd.prog 24 #[v] w fun e w' => e = .returned (.tuple #[.string ⟨#[]⟩, .bool true]) ∧ Below w.heap.size w w' := by
  have hmf : ∀ (fn : Fn) (first cap : Array Value) (w : World), (Instr.makeFunc fn first cap).run Tryd.prog w = .ok (.func fn first cap) w := fun _ _ _ _ => rfl
  go_enter_defers Tryd.func24, Tryd.ntmps24
  go_wp2_with (go_at_call 44; go_must (refine (mustText_bad h _).mono ?_; rintro e w1 ⟨rfl, hw1⟩; have hw1 := hw1.symm; subst hw1))
  refine leaves_cons (f := 43) (args := #[.pointer (some ⟨w.heap.size, 0, none⟩)]) (by simp) (by simp [go_sem]) ?_
  refine (catchT_pan ⟨w.heap.size, 0, none⟩ false _ [] _ ?_ ?_).mono ?_
  · simp [go_sem]
  · simp [go_sem]
  rintro e u' w'' ⟨rfl, rfl, rfl⟩
  simp [Leaves, settle, results, Tryd.results24, go_sem]
  exact ((Below.refl _ _).alloc (Nat.le_refl _) _).alloc (by simp) _
set_option maxRecDepth 100000 in
set_option maxHeartbeats 800000 in
theorem lawmustObject_ok (A : Option Addr) (n c : Nat) (w : World) : Calls Tryd.prog 25 #[.iface 73 (.slice A n c)] w fun e w' => e = .returned (.tuple #[.int .i64 (n : Int), .bool false]) ∧ Below w.heap.size w w' := by
  have hmf : ∀ (fn : Fn) (first cap : Array Value) (w : World), (Instr.makeFunc fn first cap).run Tryd.prog w = .ok (.func fn first cap) w := fun _ _ _ _ => rfl
  go_enter_defers Tryd.func25, Tryd.ntmps25
  go_wp2_with (go_at_call 46; go_must (refine (mustObject_ok A n c _).mono ?_; rintro e w1 ⟨rfl, hw1⟩; have hw1 := hw1.symm; subst hw1))
  refine leaves_cons (f := 45) (args := #[.pointer (some ⟨w.heap.size, 0, none⟩)]) (by simp) (by simp [go_sem]) ?_
  refine (catchO_idle ⟨w.heap.size, 0, none⟩ false _ ?_ ?_).mono ?_
  · simp [go_sem]
  · simp [go_sem]
  rintro e u' w'' ⟨rfl, rfl, rfl⟩
  simp [Leaves, settle, results, Tryd.results25, go_sem]
  exact (Below.refl _ _).alloc (Nat.le_refl _) _
set_option maxRecDepth 100000 in
set_option maxHeartbeats 800000 in
theorem lawmustObject_bad {v : Value} (h : NotT 73 v) (w : World) : Calls Tryd.prog 25 #[v] w fun e w' => e = .returned (.tuple #[.int .i64 0, .bool true]) ∧ Below w.heap.size w w' := by
  have hmf : ∀ (fn : Fn) (first cap : Array Value) (w : World), (Instr.makeFunc fn first cap).run Tryd.prog w = .ok (.func fn first cap) w := fun _ _ _ _ => rfl
  go_enter_defers Tryd.func25, Tryd.ntmps25
  go_wp2_with (go_at_call 46; go_must (refine (mustObject_bad h _).mono ?_; rintro e w1 ⟨rfl, hw1⟩; have hw1 := hw1.symm; subst hw1))
  refine leaves_cons (f := 45) (args := #[.pointer (some ⟨w.heap.size, 0, none⟩)]) (by simp) (by simp [go_sem]) ?_
  refine (catchO_pan ⟨w.heap.size, 0, none⟩ false _ [] _ ?_ ?_).mono ?_
  · simp [go_sem]
  · simp [go_sem]
  rintro e u' w'' ⟨rfl, rfl, rfl⟩
  simp [Leaves, settle, results, Tryd.results25, go_sem]
  exact ((Below.refl _ _).alloc (Nat.le_refl _) _).alloc (by simp) _
end Go.Proofs.YtkbopeoaoakfnaaDoor

namespace Go.Proofs.YtkbopeoaoakfnaaDoor
open Go.RowKit
set_option maxRecDepth 100000 in
theorem asText_no {v : Value} (h : NotT 41 v) (h1 : v.cells = #[v] ∧ v.oneCell' = true) (w : World) : Calls Tryd.prog 17 #[v] w fun e w' => e = .returned (.tuple #[.string ⟨#[]⟩, .bool false]) ∧ w' = w := by
  have f1 : ∀ w, (Instr.typeAssert v 30 41 true).run Tryd.prog w = .ok (.tuple #[.string ⟨#[]⟩, .bool false]) w := by
    intro w
    rcases h with rfl | ⟨t, x, rfl, ht⟩
    · exact nil_Text w
    · exact no_Text ht x w
  clear h
  go_enter Tryd.func17, Tryd.ntmps17
  go_wp2
  go_ret2
  exact ⟨rfl, rfl⟩
set_option maxRecDepth 100000 in
theorem asList_no {v : Value} (h : NotT 49 v) (h1 : v.cells = #[v] ∧ v.oneCell' = true) (w : World) : Calls Tryd.prog 21 #[v] w fun e w' => e = .returned (.tuple #[.slice none 0 0, .bool false]) ∧ w' = w := by
  have f1 : ∀ w, (Instr.typeAssert v 30 49 true).run Tryd.prog w = .ok (.tuple #[.slice none 0 0, .bool false]) w := by
    intro w
    rcases h with rfl | ⟨t, x, rfl, ht⟩
    · exact nil_List w
    · exact no_List ht x w
  clear h
  go_enter Tryd.func21, Tryd.ntmps21
  go_wp2
  go_ret2
  exact ⟨rfl, rfl⟩
set_option maxRecDepth 100000 in
theorem get_no {v : Value} (h : NotT 73 v) (h1 : v.cells = #[v] ∧ v.oneCell' = true) (x : ByteArray) (w : World) : Calls Tryd.prog 22 #[v, .string x] w fun e w' => e = .returned (.tuple #[.nilIface, .bool false]) ∧ Below w.heap.size w w' := by
  have f1 : ∀ w, (Instr.typeAssert v 30 73 true).run Tryd.prog w = .ok (.tuple #[.slice none 0 0, .bool false]) w := by
    intro w
    rcases h with rfl | ⟨t, x, rfl, ht⟩
    · exact nil_Object w
    · exact no_Object ht x w
  clear h
  go_enter Tryd.func22, Tryd.ntmps22
  go_wp2
  go_loopw [17] (fun i wr => i = .int .i64 0 ∧ wr = w) (fun _ _ => 0)
  case atStart => exact ⟨rfl, rfl⟩
  case round =>
    obtain ⟨rfl, hw⟩ := hrel
    have hw := hw.symm
    subst hw
    go_wp2
    go_ret2
    exact ⟨rfl, Below.refl _ _⟩
/-- The first place of a key. -/
def At1 (key : List UInt8) (ks : List (List UInt8)) (i : Nat) : Prop := ks[i]? = some key ∧ ∀ j, j < i → ks[j]? ≠ some key
theorem at1_or (key : List UInt8) : ∀ ks : List (List UInt8), (∃ i, At1 key ks i) ∨ ∀ i : Nat, ks[i]? ≠ some key
  | [] => .inr (by simp)
  | k :: ks => by
    by_cases h : k = key
    · exact .inl ⟨0, by simp [h], fun j hj => by omega⟩
    · rcases at1_or key ks with ⟨i, h1, h2⟩ | h2
      · refine .inl ⟨i + 1, by simpa using h1, fun j hj => ?_⟩
        match j, hj with
        | 0, _ => simpa using h
        | j + 1, hj => simpa using h2 j (by omega)
      · refine .inr fun i => ?_
        match i with
        | 0 => simpa using h
        | i + 1 => simpa using h2 i
theorem At1.one {key : List UInt8} {ks : List (List UInt8)} {i j : Nat} (h : At1 key ks i) (h2 : At1 key ks j) : i = j := by
  rcases Nat.lt_trichotomy i j with hl | hl | hl
  · exact absurd h.1 (h2.2 i hl)
  · exact hl
  · exact absurd h2.1 (h.2 j hl)
/-- What Get of an object answers. -/
def GetP (w : World) (F : Nat → Prop) (key : List UInt8) (ks : List (List UInt8)) (l : List JV) (e : Ending) (w' : World) : Prop :=
  Below w.heap.size w w' ∧ ((∃ i x, At1 key ks i ∧ e = .returned (.tuple #[x, .bool true]) ∧ ∀ j, l[i]? = some j → IsV w F x j) ∨ ((∀ i : Nat, ks[i]? ≠ some key) ∧ e = .returned (.tuple #[.nilIface, .bool false])))
set_option maxRecDepth 100000 in
set_option maxHeartbeats 1000000 in
theorem get_obj {w : World} {F : Nat → Prop} {A : Option Addr} {c : Nat} {us : List Value} {ks : List (List UInt8)} {l : List JV} (key : List UInt8) (KX : ByteArray) (hkx : KX = ⟨key.toArray⟩) (hu : us.length = l.length) (hkl : ks.length = l.length) (hr : Rd w F A (mems ks us)) (he : ∀ (i : Nat) (u : Value) (j : JV), us[i]? = some u → l[i]? = some j → IsV w F u j) (hF : ∀ k, F k → k < w.heap.size) (hln : l.length ≤ 140737488000000) :
    Calls Tryd.prog 22 #[.iface 73 (.slice A l.length c), .string KX] w (GetP w F key ks l) := by
  have fObject := fun w => is_Object (.slice A l.length c) w
  have HE := Lib.hid he
  have HR := Lib.hid hr
  have HF := Lib.hid hF
  have HU := Lib.hid (And.intro hu hkl)
  have HKX := Lib.hid hkx
  clear he hr hF hu hkl hkx
  go_enter Tryd.func22, Tryd.ntmps22
  go_wp2
  go_loopw [17] (fun i wr => ∃ k : Nat, k ≤ l.length ∧ i = .int .i64 (k : Int) ∧ Below w.heap.size w wr ∧ ∀ j, j < k → ks[j]? ≠ some key) (fun i _ => l.length - (intOf i).toNat)
  case atStart => exact ⟨0, Nat.zero_le _, rfl, Below.refl _ _, fun j hj => by omega⟩
  case round =>
    obtain ⟨k, hk, rfl, hbw, hnone⟩ := hrel
    have HN := Lib.hid hnone
    have HB := Lib.hid hbw
    clear hnone hbw
    by_cases hlt : k < l.length
    · obtain ⟨j, hj⟩ : ∃ j, l[k]? = some j := ⟨_, List.getElem?_eq_getElem hlt⟩
      have hlu : k < us.length := by rw [HU.out.1]; exact hlt
      have hlk : k < ks.length := by rw [HU.out.2]; exact hlt
      obtain ⟨u, hu⟩ : ∃ u, us[k]? = some u := ⟨_, List.getElem?_eq_getElem hlu⟩
      obtain ⟨kk, hkey⟩ : ∃ kk, ks[k]? = some kk := ⟨_, List.getElem?_eq_getElem hlk⟩
      have hmg := mems_get ks us k kk u hkey hu
      have hne : mems ks us ≠ [] := by
        intro h0
        have := hmg 0 _ rfl
        rw [h0] at this
        simp at this
      obtain ⟨b0, off, rfl, hb0, hc0⟩ := HR.out hne
      obtain ⟨KB, hKB⟩ : ∃ KB : ByteArray, KB = ⟨kk.toArray⟩ := ⟨_, rfl⟩
      rw [← hKB] at hmg
      have hrow : wr.rangeAt b0 (off + k * 2) (#[Value.string KB, u] : Array Value).toList := by
        intro i x hx
        rw [Nat.add_assoc]
        exact (HB.out.cell (p := ⟨b0, off + (k * 2 + i), none⟩) (HF.out b0 hb0)).trans (hc0 (k * 2 + i) x (hmg i x (by simpa using hx)))
      have hisv := HE.out k u j hu hj
      have hu1 := hisv.one
      have hkI : (k : Int) < (l.length : Int) := by omega
      have hk0 : (0 : Int) ≤ (k : Int) := by omega
      have hd : decide (k < l.length) = true := by simp; exact hlt
      have hi3 : (k : Int) + 1 ≤ 140737488000000 := by omega
      have hst : (store ⟨wr.heap.size, 1, none⟩ u).run Tryd.prog (wr.alloc (.cells #[.string KB, .nilIface] 75)) = .ok () (wr.alloc (.cells #[.string KB, u] 75)) := by
        have h1 := run_store Tryd.prog (wr.alloc (.cells #[.string KB, .nilIface] 75)) ⟨wr.heap.size, 1, none⟩ u .plain hu1.2
        rw [h1]
        simp
        rw [World.setCell_alloc_new]
        rfl
      have hzm := fun w => (show (zeroValue 75).run Tryd.prog w = .ok (.agg #[.string ⟨#[]⟩, .nilIface]) w by kernel_rfl)
      have HISV := Lib.hid hisv
      have HLT := Lib.hid hlt
      have HROW := Lib.hid hrow
      have HJ := Lib.hid (And.intro hj hkey)
      have HBn : Hid (Below w.heap.size w (wr.alloc (.cells #[.string KB, u] 75))) := HB.out.alloc HB.out.size _
      by_cases hkk : kk = key
      · have heq : (KB.toList == KX.toList) = true := by rw [hKB, HKX.out, hkk]; simp
        have HA : Hid (At1 key ks k) := ⟨by rw [hkey, hkk], HN.out⟩
        clear hj hkey hisv hlt hrow hc0 hu hb0 hne hlu hlk hmg hkk hKB
        go_wp2_with (first
          | (refine wpList_load_arr rfl _ _ rfl b0 _ rfl #[.string KB, u] _ (by with_reducible exact HROW.out) Tryd.underlying75 rfl (by kernel_rfl) ?_))
        go_ret2
        refine ⟨HBn.out, .inl ⟨k, u, HA.out, rfl, fun j2 hj2 => ?_⟩⟩
        rw [HJ.out.1] at hj2
        cases hj2
        exact HISV.out
      · have heq : (KB.toList == KX.toList) = false := by
          rw [hKB, HKX.out, Lib.toList_data, Lib.toList_data]
          simpa using hkk
        have HA : Hid (∀ j, j < k + 1 → ks[j]? ≠ some key) := fun j2 hj2 => by
          rcases Nat.lt_or_ge j2 k with h | h
          · exact HN.out j2 h
          · obtain rfl : j2 = k := by omega
            rw [hkey]
            simpa using hkk
        clear hj hkey hisv hlt hrow hc0 hu hb0 hne hlu hlk hmg hkk hKB
        go_wp2_with (first
          | (refine wpList_load_arr rfl _ _ rfl b0 _ rfl #[.string KB, u] _ (by with_reducible exact HROW.out) Tryd.underlying75 rfl (by kernel_rfl) ?_))
        go_roundw
        case rel => exact ⟨k + 1, HLT.out, by go_num, HBn.out, HA.out⟩
        case measure => have := HLT.out; simp [intOf]; omega
    · have hkI : (l.length : Int) ≤ (k : Int) := by omega
      have HA : Hid (∀ i : Nat, ks[i]? ≠ some key) := fun i => by
        rcases Nat.lt_or_ge i k with h | h
        · exact HN.out i h
        · rw [List.getElem?_eq_none (by rw [HU.out.2]; omega)]; simp
      have hd : decide (k < l.length) = false := by simp; omega
      clear hlt
      go_wp2
      go_ret2
      exact ⟨HB.out, .inr ⟨HA.out, rfl⟩⟩
end Go.Proofs.YtkbopeoaoakfnaaDoor
