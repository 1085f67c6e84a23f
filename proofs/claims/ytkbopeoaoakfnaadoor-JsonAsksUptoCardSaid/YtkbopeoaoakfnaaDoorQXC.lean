/- The texts RW4 LJWhole of this work, merged by wip/merge.py. No conditions. -/
import Derived.Test.YtkbopeoaoakfnaaDoorQXA
import Derived.Test.YtkbopeoaoakfnaaDoorQAS
import Derived.Test.YtkbopeoaoakfnaaDoorQA
import Derived.Lib.LaidU8
import Derived.SevenTiedAt
import Derived.Stop.LaidErr
import Derived.Test.YtkbopeoaoakfnaaDoorQXB
import Derived.Test.YtkbopeoaoakfnaaDoorQRI
import Derived.Test.YtkbopeoaoakfnaaDoorQWB
import Derived.Lib.ItoaLen
namespace Go.Proofs.YtkbopeoaoakfnaaDoor
open Go.RowKit Go.ChangeShapes Go.WideShapes Go.ChangeAt Go.Deep Go.Extern.Stop Go.Stop Go.Extern
theorem w_g10 : Tryd.prog.globalNamed "internal/strconv.uint64pow10" = some 2 := by kernel_rfl
theorem w_g10t : (Tryd.prog.globals[2]?).map (·.type) = some 156 := by kernel_rfl
theorem w_cellsU64 : Tryd.prog.cellsOf 100 = 1 := by kernel_rfl
theorem w_cells20 : Tryd.prog.cellsOf 156 = 20 := by kernel_rfl
theorem w_gS : Tryd.prog.globalNamed "strconv.ErrSyntax" = some 0 := by kernel_rfl
theorem w_gSt : (Tryd.prog.globals[0]?).map (·.type) = some 93 := by kernel_rfl
theorem w_gR : Tryd.prog.globalNamed "strconv.ErrRange" = some 1 := by kernel_rfl
theorem w_gRt : (Tryd.prog.globals[1]?).map (·.type) = some 93 := by kernel_rfl
theorem w_cellsE : Tryd.prog.cellsOf 164 = 1 := by kernel_rfl
theorem w_cellsS : Tryd.prog.cellsOf 9 = 1 := by kernel_rfl
theorem w_star : "*" ++ "errors.errorString" = "*errors.errorString" := by decide
theorem w_row (u : TypeId) (h : Tryd.prog.typeName? 3 u = some "*errors.errorString") : u = 162 :=
  typeName_ptr_named (nm := "errors.errorString") (by rw [w_star]; kernel_rfl) (by kernel_rfl) (by decide) u (by rw [w_star]; exact h)
theorem w_pow10 {W : World} (h : laidMet Tryd.prog Rows.jsonWholeRow.laid W) : Pow10 W := by
  obtain ⟨g', t', cs, fuel, p, hg', ht', hvar, hdd⟩ := Lib.laidMet.reads h (n := "internal/strconv.uint64pow10") (d := Rows.laid_internal_strconv_uint64pow10) (.tail _ (.tail _ (.head _)))
  obtain rfl := Option.some.inj (w_g10.symm.trans hg')
  obtain rfl := Option.some.inj (w_g10t.symm.trans ht')
  rw [show (Rows.laid_internal_strconv_uint64pow10 : DataW Unit) = Lib.tabData .u64 Lib.pow10Tab by kernel_rfl] at hdd
  unfold Pow10 Lib.TabIs
  rw [hvar, ← Lib.cells_of_tab Tryd.underlying156 Tryd.underlying100 w_cellsU64 w_cells20 hdd]
theorem nw_of {W : World} (h : laidMetH Tryd.prog Rows.jsonWholeRow.laid W) : NW W := by
  rw [MakeChecks.laidMetH_plain _ _ _ (by kernel_rfl)] at h
  have hp := w_pow10 h
  have hL : laidMet Tryd.prog _ W := h.tail.tail.tail.tail
  obtain ⟨a1, s1, hv1, hc1, hs1, hz1⟩ := laid_sentinel hL w_gR w_gRt Tryd.underlying93 w_row Tryd.underlying162 Tryd.underlying164 rfl rfl Tryd.underlying9 w_cellsE w_cellsS
  obtain ⟨a0, s0, hv0, hc0, hs0, hz0⟩ := laid_sentinel hL.tail w_gS w_gSt Tryd.underlying93 w_row Tryd.underlying162 Tryd.underlying164 rfl rfl Tryd.underlying9 w_cellsE w_cellsS
  have c0 := World.var?_cell w_gS hv0 0
  have c1 := World.var?_cell w_gR hv1 0
  exact ⟨hp, ⟨.iface 162 (.pointer (some a0)), by simpa using c0, .inr ⟨_, _, rfl⟩⟩, ⟨.iface 162 (.pointer (some a1)), by simpa using c1, .inr ⟨_, _, rfl⟩⟩⟩
section
variable {H : Type} {enc : TypeId × Value → H} {w : World} {base : Nat} {held : Bool} {r : Reach} {b0 : Nat} {v : Value} {d : DataW H} {p : List MemPlace}
set_option maxRecDepth 100000 in
theorem arg_string_bulk {n : Nat} (hv : Value.okWide Tryd.prog w r b0 9 v) (h : DataW.Trod enc Tryd.prog w base (fun _ => true) held 9 v d p) (hs : (d.weights Tryd.prog 9).all (· ≤ reachBytes) = true) (hb : Rows.uptoBulk d ≤ n) : ∃ s, ArgS v s ∧ s.size ≤ n := by
  obtain ⟨s, rfl, rfl, rfl, hw⟩ := Go.ChangeMaps.open_string Tryd.underlying9 hv h
  refine ⟨s, ⟨rfl, ?_⟩, ?_⟩
  · have h1 : decide (s.data.toList.length ≤ reachBytes) = true := List.all_eq_true.1 hs s.data.toList.length (by unfold DataW.weights; exact List.mem_cons_self)
    have h2 : s.data.toList.length = s.size := Array.length_toList
    rw [← h2]
    exact of_decide_eq_true h1
  · have h2 : s.data.toList.length = s.size := Array.length_toList
    simp only [Rows.uptoBulk] at hb
    omega
end
end Go.Proofs.YtkbopeoaoakfnaaDoor

namespace Go.Proofs.YtkbopeoaoakfnaaDoor
open Go.RowKit
theorem wholeP_zero {s : List UInt8} (h : (wholeP s).2 = false) : (wholeP s).1 = 0 := by
  unfold wholeP at h ⊢
  cases hp : Lib.parseIntB 64 s with
  | ok v =>
    rw [hp] at h
    by_cases he : Lib.itoa v = s
    · simp [he] at h
    · simp [he]
  | range => rfl
  | _ => rfl
theorem wholeP_len {s : List UInt8} (h : (wholeP s).2 = true) : s.length ≤ 21 := by
  unfold wholeP at h
  cases hp : Lib.parseIntB 64 s with
  | ok v =>
    rw [hp] at h
    by_cases he : Lib.itoa v = s
    · rw [← he]
      have := parseIntB_range hp
      exact Lib.itoa_length_le v this.1 this.2
    · simp [he] at h
  | range => rw [hp] at h; cases h
  | _ => rw [hp] at h; cases h
theorem wholeP_nil : wholeP [] = (0, false) := rfl
set_option maxRecDepth 100000 in
set_option maxHeartbeats 800000 in
theorem asList_list (A : Option Addr) (n c : Nat) (w : World) : Calls Tryd.prog 21 #[.iface 49 (.slice A n c)] w fun e w' => e = .returned (.tuple #[.slice A n c, .bool true]) ∧ w' = w := by
  have f1 := fun w => is_List (.slice A n c) w
  go_enter Tryd.func21, Tryd.ntmps21
  go_wp2
  go_ret2
  exact ⟨rfl, rfl⟩
theorem isV_one {w : World} {x : ByteArray} {s : List UInt8} {B : Nat} (h0 : ∀ (w : World) (F : Nat → Prop), IsV w F (.iface 61 (.string x)) (.num s)) (hB : B = w.heap.size) :
    IsV (w.alloc (.cells #[.iface 61 (.string x)] 30)) (fun k => k = B) (.iface 49 (.slice (some ⟨B, 0, none⟩) 1 1)) (.list [.num s]) := by
  refine IsV.list (some ⟨B, 0, none⟩) 1 [.iface 61 (.string x)] [.num s] rfl (fun _ => ⟨B, 0, rfl, rfl, fun j u hu => ?_⟩) (fun i u j hu hj => ?_)
  · match j, hu with
    | 0, hu =>
      cases hu
      rw [hB]
      exact Lib.cell_of_heap (heap_alloc_new w _) 0
  · match i, hu, hj with
    | 0, hu, hj =>
      cases hu
      cases hj
      exact h0 _ _
/-- A read list of one number. -/
theorem isV_num1 {w : World} {F : Nat → Prop} {v : Value} {s : List UInt8} (h : IsV w F v (.list [.num s])) : ∃ b off c, v = .iface 49 (.slice (some ⟨b, off, none⟩) 1 c) ∧ w.cell? ⟨b, off, none⟩ = some (.iface 61 (.string ⟨s.toArray⟩)) ∧ F b := by
  cases h with
  | list A c us l hu hr he =>
    obtain ⟨b, off, rfl, hF, hcell⟩ := hr (by intro e; rw [e] at hu; cases hu)
    match us, hu, hcell, he with
    | [u], _, hcell, he =>
      have h1 := hcell 0 u rfl
      have h2 := he 0 u (.num s) rfl rfl
      refine ⟨b, off, c, rfl, ?_, hF⟩
      rw [show (⟨b, off, none⟩ : Addr) = ⟨b, off + 0, none⟩ from rfl, h1]
      cases h2
      rfl
set_option maxRecDepth 100000 in
set_option maxHeartbeats 1000000 in
theorem jsonWhole_walk (v0 : Value) (x0 : ByteArray) (W : World) (a0 : ArgS v0 x0) (hbulk : x0.size ≤ 140737487999990) (hnw : NW W) : Calls Tryd.prog 9 #[v0] W fun e W' => e = .returned (.bool true) ∧ Below W.heap.size W W' := by
  obtain ⟨rfl, hx⟩ := a0
  obtain ⟨s, hs⟩ : ∃ s : List UInt8, x0 = ⟨s.toArray⟩ := ⟨x0.data.toList, by cases x0; simp⟩
  have hsz : x0.size = s.length := by rw [hs]; simp [ByteArray.size]
  have HWN : Hid (∀ w, NW w → Calls Tryd.prog 26 #[.iface 61 (.string x0)] w fun e w' => e = .returned (.tuple #[.int .i64 (wholeP s).1, .bool (wholeP s).2]) ∧ Below w.heap.size w w') := by
    intro w hw
    refine whole_any _ s true (fun w => ?_) (by omega) w hw
    rw [hs]
    exact is_Number _ w
  have HWT : Hid (∀ w, NW w → Calls Tryd.prog 26 #[.iface 41 (.string x0)] w fun e w' => e = .returned (.tuple #[.int .i64 0, .bool false]) ∧ Below w.heap.size w w') := by
    intro w hw
    exact whole_any _ [] false (fun w => no_Number (by decide) _ w) (by simp) w hw
  have HRW : Hid (∀ w, Calls Tryd.prog 27 #[.string x0] w fun e w' => e = .returned (.tuple #[.int .i64 (wholeP s).1, .bool (wholeP s).2]) ∧ Below w.heap.size w w') := by
    intro w
    rw [hs]
    exact rwhole_any s w (by omega)
  have HNW := Lib.hid hnw
  obtain ⟨t, ht⟩ : ∃ t, t = prt (.list [.num s]) := ⟨_, rfl⟩
  have hlt : t.length = s.length + 2 := by rw [ht]; simp [prt, prtL]
  obtain ⟨tb, htb⟩ : ∃ tb : ByteArray, tb = ⟨t.toArray⟩ := ⟨_, rfl⟩
  have HPT : Hid (∀ w, Calls Tryd.prog 16 #[.string tb] w (ParsePost w t)) := by
    intro w
    rw [htb]
    exact parse_any w t
  have HNUM : Hid (∀ (w : World) (F : Nat → Prop), IsV w F (.iface 61 (.string x0)) (.num s)) := by
    intro w F
    rw [hs]
    exact .num s
  have HLT : Hid ((prt (.list [.num s])).length ≤ 140737488000000) := by show _ ≤ _; rw [← ht]; omega
  have HTB : Hid (tb = ⟨(prt (.list [.num s])).toArray⟩) := by show _ = _; rw [htb, ht]
  cases hok : (wholeP s).2
  case false =>
    have h0 := wholeP_zero hok
    rw [h0, hok] at HWN HRW
    obtain ⟨K1, hK1⟩ : ∃ K : Int, K = (parseP t).2.1 := ⟨_, rfl⟩
    obtain ⟨K2, hK2⟩ : ∃ K : Int, K = (parseP t).2.2 := ⟨_, rfl⟩
    unfold ParsePost at HPT
    rw [← hK1, ← hK2] at HPT
    clear hs hsz hx hbulk hnw ht hlt htb hok h0 hK1 hK2
    go_enter Tryd.func9, Tryd.ntmps9
    go_upto_region 6 with (first
      | (go_at_call 10; go_must (refine (awake_any W).mono ?_; rintro e w1 ⟨rfl, hb1⟩; have B1 := Lib.hid hb1; have N1 := Lib.hid (HNW.out.below hb1); clear hb1))
      | (go_at_call 26; have hx_ := B3; go_must (refine (HWT.out _ N3.out).mono ?_; rintro e w4 ⟨rfl, hb4⟩; have B4 := Lib.hid hb4; have N4 := Lib.hid (N3.out.below hb4); clear hb4))
      | (go_at_call 27; go_must (refine (HRW.out _).mono ?_; rintro e w3 ⟨rfl, hb3⟩; have B3 := Lib.hid hb3; have N3 := Lib.hid (N2.out.below hb3); clear hb3))
      | (go_at_call 26; go_must (refine (HWN.out _ N1.out).mono ?_; rintro e w2 ⟨rfl, hb2⟩; have B2 := Lib.hid hb2; have N2 := Lib.hid (N1.out.below hb2); clear hb2)))
    go_wp2_with (first
      | (go_at_call 12; go_must (obtain ⟨B, hB⟩ : ∃ B, B = w4.heap.size := ⟨_, rfl⟩; obtain ⟨w5, hw5⟩ : ∃ w5, w5 = w4.alloc (.cells #[.iface 61 (.string x0)] 30) := ⟨_, rfl⟩; have hv5 := isV_one (w := w4) HNUM.out hB; rw [← hw5] at hv5; rw [← hB, ← hw5]; have hb5 : Below w4.heap.size w4 w5 := (by rw [hw5]; exact (Below.refl _ _).alloc (Nat.le_refl _) _); have hB5 : B < w5.heap.size := (by rw [hw5, hB]; simp); refine (print_any hv5 (fun q hq => (by rw [hq]; exact hB5)) HLT.out).mono ?_; rw [← HTB.out]; rintro e w6 ⟨rfl, hb6⟩; have B6 := Lib.hid (hb5.trans (hb6.mono hb5.size)); clear hb5 hB5 hb6 hw5 hB hv5))
      | (go_at_call 16; go_must (refine (HPT.out _).mono ?_; rintro e w7 ⟨v, rfl, hb7, hV7⟩; have B7 := Lib.hid hb7; have hv7 := hV7.one; clear hb7 hV7)))
    go_ret
    refine ⟨by simp, ?_⟩
    have s1 := B1.out.size
    have s2 := B2.out.size
    have s3 := B3.out.size
    have s4 := B4.out.size
    have s6 := B6.out.size
    exact B1.out.trans ((B2.out.mono (by omega)).trans ((B3.out.mono (by omega)).trans ((B4.out.mono (by omega)).trans ((B6.out.mono (by omega)).trans (B7.out.mono (by omega))))))
  case true =>
    have hl21 := wholeP_len hok
    have hpp : parseP t = (.list [.num s], 0, 0) := by
      rw [ht]
      exact parse_print (j := .list [.num s]) (by rw [goodJ, goodJL, goodJ, goodJL]; exact ⟨by decide, whole_num hok, trivial⟩) (by rw [← ht]; omega)
    unfold ParsePost at HPT
    rw [hpp] at HPT
    have HXS : Hid ((⟨s.toArray⟩ : ByteArray) = x0) := hs.symm
    rw [hok] at HWN HRW
    obtain ⟨n, hn⟩ : ∃ n, n = (wholeP s).1 := ⟨_, rfl⟩
    rw [← hn] at HWN HRW
    clear hs hsz hx hbulk hnw ht hlt htb hok hpp hl21 hn
    go_enter Tryd.func9, Tryd.ntmps9
    go_upto_region 6 with (first
      | (go_at_call 10; go_must (refine (awake_any W).mono ?_; rintro e w1 ⟨rfl, hb1⟩; have B1 := Lib.hid hb1; have N1 := Lib.hid (HNW.out.below hb1); clear hb1))
      | (go_at_call 26; have hx_ := B3; go_must (refine (HWT.out _ N3.out).mono ?_; rintro e w4 ⟨rfl, hb4⟩; have B4 := Lib.hid hb4; have N4 := Lib.hid (N3.out.below hb4); clear hb4))
      | (go_at_call 27; go_must (refine (HRW.out _).mono ?_; rintro e w3 ⟨rfl, hb3⟩; have B3 := Lib.hid hb3; have N3 := Lib.hid (N2.out.below hb3); clear hb3))
      | (go_at_call 26; go_must (refine (HWN.out _ N1.out).mono ?_; rintro e w2 ⟨rfl, hb2⟩; have B2 := Lib.hid hb2; have N2 := Lib.hid (N1.out.below hb2); clear hb2)))
    go_upto_region 14 with (first
      | (go_at_call 12; go_must (obtain ⟨B, hB⟩ : ∃ B, B = w4.heap.size := ⟨_, rfl⟩; obtain ⟨w5, hw5⟩ : ∃ w5, w5 = w4.alloc (.cells #[.iface 61 (.string x0)] 30) := ⟨_, rfl⟩; have hv5 := isV_one (w := w4) HNUM.out hB; rw [← hw5] at hv5; rw [← hB, ← hw5]; have hb5 : Below w4.heap.size w4 w5 := (by rw [hw5]; exact (Below.refl _ _).alloc (Nat.le_refl _) _); have hB5 : B < w5.heap.size := (by rw [hw5, hB]; simp); refine (print_any hv5 (fun q hq => (by rw [hq]; exact hB5)) HLT.out).mono ?_; rw [← HTB.out]; rintro e w6 ⟨rfl, hb6⟩; have B6 := Lib.hid (hb5.trans (hb6.mono hb5.size)); clear hb5 hB5 hb6 hw5 hB hv5))
      | (go_at_call 21; go_must (refine (asList_list _ _ _ _).mono ?_; rintro e w8 ⟨rfl, hw8⟩; have hw8 := hw8.symm; subst hw8))
      | (go_at_call 16; go_must (refine (HPT.out _).mono ?_; rintro e w7 ⟨v, rfl, hb7, hV7⟩; have B7 := Lib.hid hb7; obtain ⟨b, off, cc, rfl, hcell, hF⟩ := isV_num1 hV7; rw [HXS.out] at hcell; clear hb7 hV7 hF)))
    have N7 : Hid (NW w7) := N4.out.below (B6.out.trans (B7.out.mono B6.out.size))
    go_wp2_with (go_at_call 26; go_must (refine (HWN.out _ N7.out).mono ?_; rintro e w9 ⟨rfl, hb9⟩; have B9 := Lib.hid hb9; clear hb9))
    go_ret
    refine ⟨by simp, ?_⟩
    have s1 := B1.out.size
    have s2 := B2.out.size
    have s3 := B3.out.size
    have s4 := B4.out.size
    have s6 := B6.out.size
    have s7 := B7.out.size
    exact B1.out.trans ((B2.out.mono (by omega)).trans ((B3.out.mono (by omega)).trans ((B4.out.mono (by omega)).trans ((B6.out.mono (by omega)).trans ((B7.out.mono (by omega)).trans (B9.out.mono (by omega)))))))
end Go.Proofs.YtkbopeoaoakfnaaDoor
