/- The texts PS1 PQ PN PN2 PA of this work, merged by wip/merge.py. No conditions. -/
import Derived.Test.YtbcpmnnlhdgbhaaGreatDoorQG38
import Derived.Test.YtbcpmnnlhdgbhaaGreatDoorQG39
import Derived.Test.YtbcpmnnlhdgbhaaGreatDoorQG37
import Derived.Test.YtbcpmnnlhdgbhaaGreatDoorQG36
import Derived.Test.YtbcpmnnlhdgbhaaGreatDoorQG29
namespace Go.Proofs.YtbcpmnnlhdgbhaaGreatDoor
open Go.RowKit Go.Lib
theorem zeroWtg : ∀ w, (zeroValue 84).run Tryz.prog w = .ok (.agg #[.string ⟨#[]⟩, .slice none 0 0, .int .u64 0]) w := fun w => by kernel_rfl
theorem built_wtg : (Tryz.prog).built 84 [(0, .agg #[.string ⟨#[97]⟩, .slice none 0 0]), (1, .int .u64 0)] = some #[.string ⟨#[97]⟩, .slice none 0 0, .int .u64 0] := by kernel_rfl
theorem built_chg : (Tryz.prog).built 94 [(0, .string ⟨#[113, 0, 0, 0, 0, 0, 0, 0, 0]⟩), (1, .string ⟨msgB.toArray⟩)] = some chg := by kernel_rfl
theorem AccA (w : World) : Calls Tryz.prog 19 #[.string ⟨#[97]⟩] w fun e w' => e = .returned (.bool true) ∧ Below w.heap.size w w' :=
  (Account_any ⟨#[97]⟩ w).mono fun e w' h => ⟨h.1.trans (by rw [show accOK (⟨#[97]⟩ : ByteArray).data.toList = true from by decide]), h.2⟩
theorem DevA (w : World) : Calls Tryz.prog 20 #[.slice none 0 0] w fun e w' => e = .returned (.bool true) ∧ Below w.heap.size w w' :=
  (Devices_any none 0 [] w (fun h => absurd h (by simp)) (by simp)).mono fun e w' ⟨b, he, hb, hw⟩ => ⟨by rw [he, hb.2 ⟨fun i h => absurd h (by simp), by simp⟩], hw⟩
section
variable {ops : Array Oper} {rest : List Oper} {o : Oper} {a : Act} {w0 w : World} {Q : Exit → Act → World → Prop} {bs : List (Nat × Array Value × TypeId)}
/-- One cell of a block, a list of devices. -/
theorem s_setDev (F : BK w0 w bs) (hg : o.guard = none) {x y : Operand} (ho : o.op = .store 27 x y) (i : Nat) {b : Nat} {c : Array Value} {t : TypeId} (hi : bs[i]? = some (b, c, t)) (k : Nat) (hk : k < c.size) (hx : a.eval x = .pointer (some ⟨b, k, none⟩))
    {A : Option Addr} {n m : Nat} (hy : a.eval y = .slice A n m) (h : ∀ w', BK w0 w' (bs.set i (b, c.setIfInBounds k (.slice A n m), t)) → (∀ j, j ≠ b → w'.heap[j]? = w.heap[j]?) → wpList Tryz.prog ops Q rest (a.put o.dst undef) w') : wpList Tryz.prog ops Q (o :: rest) a w := by
  refine wpList_plain hg fun K hK => ?_
  have h2 := F.cell i hi k
  rw [Array.getElem?_eq_getElem hk] at h2
  have h3 := F.free i hi k
  have h4 := hK _ _ (h _ (F.put1 i hi k _) (fun _ hj => Below.heap_setCell _ _ _ _ hj))
  unfold Oper.wp execOp
  simp only [ho, hx, hy]
  simp [go_sem, h2, h3]
  exact h4
end
theorem turns_cell {own : Nat → Prop} {a w : World} (h : Turns own a w) {g j : Nat} (hg : own g) (v : Value) : Turns own a (w.setCell ⟨g, j, none⟩ v) := by
  have hs : (w.setCell ⟨g, j, none⟩ v).heap.size = w.heap.size := by simp
  refine ⟨h.os, h.tape, h.output, by rw [hs]; exact h.size, fun k hk hn => ?_⟩
  exact (Below.heap_setCell _ _ _ _ (fun e => hn (by cases e; exact hg))).trans (h.block k hk hn)
theorem wtginfo : (Tryz.prog.info? 84).map (fun i => (i.zero, i.size, i.bytes)) = some (some (.agg #[.string ⟨#[]⟩, .slice none 0 0, .int .u64 0]), 3, 48) := by kernel_rfl
theorem PubS.gpm {w : World} {base N gd gl gs m gp g : Nat} {own : Nat → Prop} (h : PubS w base own N gd gl gs m gp g) : gp ≠ m := by
  rintro rfl
  have h1 := h.mp
  have h2 := h.pub
  unfold PubAt at h2
  rw [h1] at h2
  cases h2
theorem wtg_row {w : World} {base : Nat} {v : Value} {xs : List Value} (h : w.ownsRow base 84 3 v (0 + 1) xs) : ∃ g c cur, v = .slice (some ⟨g, 0, none⟩) 1 c ∧ base ≤ g ∧ w.heap[g]? = some (.cells cur 84 (0, 0)) ∧ 1 ≤ c ∧ cur.toList.take 3 = xs := by
  obtain ⟨_, ⟨_, h0⟩ | ⟨g, c, cur, rfl, hb, hh, hc, _, _, ht⟩⟩ := h
  · cases h0
  · exact ⟨g, c, cur, rfl, hb, hh, hc, ht⟩
set_option maxRecDepth 100000 in
set_option maxHeartbeats 2000000 in
theorem Submit_1 {w : World} {base gd gl gs m gp g : Nat} {own : Nat → Prop} (h : PubS w base own 256 gd gl gs m gp g) (hbase : 0 < base) (K : List Int) (hkt : KT w K) :
    Calls Tryz.prog 5 #[.pointer (some ⟨gp, 0, none⟩), .agg #[.string ⟨#[97]⟩, .slice none 0 0]] w fun e w' => e = .returned (.tuple #[.int .i64 1, .int .i64 0]) ∧ ∃ q c cur, 1 ≤ c ∧ PubAt w' gp g gs (.slice (some ⟨q, 0, none⟩) 1 c) 1 ∧ w'.heap[q]? = some (.cells cur 84 (0, 0)) ∧ cur.toList.take 3 = [.string ⟨#[97]⟩, .slice none 0 0, .int .u64 0] ∧ Turns (fun k => own k ∨ k = m ∨ k = gp) w w' := by
  have P0 := Lib.hid h
  have HK := Lib.hid hkt
  have HBA := Lib.hid hbase
  have F0 := Lib.hid (BK.start w)
  have T0 : Hid True := trivial
  clear h hkt hbase
  go_enter Tryz.func5, Tryz.ntmps5
  go_wp2_with (first
    | (have hx_ := T0; refine s_box F0.out rfl rfl rfl rfl ?_; clear hx_ T0; intro w1 b1 h1 _; have c0 := h1.cell 0 rfl 0; have F1 := Lib.hid h1; clear h1 F0; have T1 : Hid True := trivial)
    | (go_at_call 19; have hx_ := T1; refine (AccA _).mono ?_; clear hx_ T1 c0; rintro e w2 ⟨rfl, hb⟩; have F2 := Lib.hid (F1.out.later hb); have c1 := F2.out.cell 0 rfl 1; clear hb F1; have T2 : Hid True := trivial)
    | (go_at_call 20; have hx_ := T2; refine (DevA _).mono ?_; clear hx_ T2 c1; rintro e w3 ⟨rfl, hb⟩; have F3 := Lib.hid (F2.out.later hb); have c1 := F3.out.cell 0 rfl 1; clear hb F2; have T3 : Hid True := trivial)
    | (go_at_call 21; have hx_ := T3; refine (CloneD_none _).mono ?_; clear hx_ T3 c1; rintro e w_ ⟨rfl, hw_⟩; have hw_ := hw_.symm; subst hw_; have T4 : Hid True := trivial)
    | (have hx_ := T4; refine s_setDev F3.out rfl rfl 0 rfl 1 (by decide) rfl rfl ?_; clear hx_ T4; intro w4 h1 _; have F4 := Lib.hid h1; clear h1 F3; have P4 := Lib.hid (P0.out.below F4.out.below); have c2 := cell_of_row _ _ 2 _ _ _ P4.out.pub; have T5 : Hid True := trivial)
    | (go_at_call 22; have hx_ := T5; refine (Index_none _ _).mono ?_; clear hx_ T5 c2; rintro e w_ ⟨rfl, hw_⟩; have hw_ := hw_.symm; subst hw_; have T6 : Hid True := trivial))
  have F4' : Hid (BK w w4 [(b1, #[.string ⟨#[97]⟩, .slice none 0 0], 29)]) := F4
  clear F4
  refine wp_region_rg' 7 [none, none, none, none, none, none, some (Tell.block #[.string ⟨#[]⟩, .slice none 0 0, .int .u64 0] 84)] (by kernel_rfl) rfl (by kernel_rfl) ⟨Tell.block_good _ _, trivial⟩ ?_
  simp only [List.take_succ_cons, List.take_zero, List.zip_cons_cons, List.zip_nil_right]
  try simp only [Act.put]
  try simp only [List.setIfInBounds_toArray, List.set_cons_succ, List.set_cons_zero]
  refine rg_load _ _ rfl b1 0 rfl #[.string ⟨#[97]⟩, .slice none 0 0] (fun w' hb _ => (F4'.out.later hb).range 0 rfl) Tryz.underlying29 rfl (by kernel_rfl) ?_
  try simp only [Act.put]
  try simp only [List.setIfInBounds_toArray, List.set_cons_succ, List.set_cons_zero]
  refine rg_e rfl fun N hNe => ?_
  go_big_quiet_step (fail)
  refine wpQuiet_nil ?_
  refine rg_nil rfl rfl ?_
  try simp only [Act.put]
  try simp only [List.setIfInBounds_toArray, List.set_cons_succ, List.set_cons_zero]
  refine rg_e rfl fun N hNe => ?_
  go_big_quiet_step (fail)
  refine wpQuiet_nil ?_
  refine rg_load1 _ _ rfl gp 3 rfl (.int .u64 0) (fun w' hb _ => cell_of_row _ _ 3 _ _ _ (P4.out.below hb).pub) (fun w => by kernel_rfl) ?_
  try simp only [Act.put]
  try simp only [List.setIfInBounds_toArray, List.set_cons_succ, List.set_cons_zero]
  refine rg_build rfl (ps := [(0, .agg #[.string ⟨#[97]⟩, .slice none 0 0]), (1, .int .u64 0)]) rfl built_wtg ?_
  try simp only [Act.put]
  try simp only [List.setIfInBounds_toArray, List.set_cons_succ, List.set_cons_zero]
  refine rg_new (run_alloc rfl zeroWtg) ?_
  intro b7
  intro w5 hb hfs hnd hown
  have hB7 : w5.heap[b7]? = some (.cells #[.string ⟨#[]⟩, .slice none 0 0, .int .u64 0] 84 (0, 0)) := hfs _ (List.mem_of_getElem? (i := 0) rfl)
  have F5 := Lib.hid (F4'.out.found hb (hown b7 (by simp)).1 hB7)
  clear hb hfs hnd hown hB7 F4' P4
  simp only [List.drop_succ_cons, List.drop_zero]
  try simp only [Act.put]
  try simp only [List.setIfInBounds_toArray, List.set_cons_succ, List.set_cons_zero]
  have T7 : Hid True := trivial
  go_wp2_with (first
    | (have hx_ := T7; refine s_store F5.out rfl rfl 0 rfl rfl #[.string ⟨#[97]⟩, .slice none 0 0, .int .u64 0] rfl rfl (by kernel_rfl) (by kernel_rfl) ?_; clear hx_ T7; intro w6 h1; have F6 := Lib.hid h1; clear h1 F5; have P6 := Lib.hid (P0.out.below F6.out.below); have c2 := cell_of_row _ _ 2 _ _ _ P6.out.pub; have T8 : Hid True := trivial))
  clear c2
  have F6' : Hid (BK w w6 [(b7, #[.string ⟨#[97]⟩, .slice none 0 0, .int .u64 0], 84), (b1, #[.string ⟨#[97]⟩, .slice none 0 0], 29)]) := F6
  clear F6
  refine wp_region_rg' 12 [none, none, none, none, none, none, some (Tell.is (.string ⟨#[113, 0, 0, 0, 0, 0, 0, 0, 0]⟩)), none, some (Tell.row 1 aggOf 29), some (Tell.is (.string ⟨msgB.toArray⟩)), none, some (Tell.row 1 aggOf 94)] (by kernel_rfl) rfl (by kernel_rfl) ⟨Tell.is_good _, Tell.row_good _ _ _, Tell.is_good _, Tell.row_good _ _ _, trivial⟩ ?_
  simp only [List.take_succ_cons, List.take_zero, List.zip_cons_cons, List.zip_nil_right]
  try simp only [Act.put]
  try simp only [List.setIfInBounds_toArray, List.set_cons_succ, List.set_cons_zero]
  refine rg_e rfl fun N hNe => ?_
  go_big_quiet_step (fail)
  refine wpQuiet_nil ?_
  refine rg_nil rfl rfl ?_
  try simp only [Act.put]
  try simp only [List.setIfInBounds_toArray, List.set_cons_succ, List.set_cons_zero]
  refine rg_e rfl fun N hNe => ?_
  go_big_quiet_step (fail)
  refine wpQuiet_nil ?_
  refine rg_load1 _ _ rfl gp 1 rfl (.pointer (some ⟨gs, 0, none⟩)) (fun w' hb _ => cell_of_row _ _ 1 _ _ _ (P6.out.below hb).pub) (fun w => by kernel_rfl) ?_
  try simp only [Act.put]
  try simp only [List.setIfInBounds_toArray, List.set_cons_succ, List.set_cons_zero]
  refine rg_e rfl fun N hNe => ?_
  go_big_quiet_step (fail)
  refine wpQuiet_nil ?_
  refine rg_load1 _ _ rfl b7 2 rfl (.int .u64 0) (fun w' hb _ => (F6'.out.later hb).cell 0 rfl 2) (fun w => by kernel_rfl) ?_
  try simp only [Act.put]
  try simp only [List.setIfInBounds_toArray, List.set_cons_succ, List.set_cons_zero]
  refine rg_call 25 _ rfl (vs := [.string ⟨#[113]⟩, .int .u64 0]) rfl (fun _ _ => rfl) (v := .string ⟨#[113, 0, 0, 0, 0, 0, 0, 0, 0]⟩) (fun w' _ _ => key_0 w') ?_
  try simp only [Act.put]
  try simp only [List.setIfInBounds_toArray, List.set_cons_succ, List.set_cons_zero]
  refine rg_load _ _ rfl b1 0 rfl #[.string ⟨#[97]⟩, .slice none 0 0] (fun w' hb _ => (F6'.out.later hb).range 1 rfl) Tryz.underlying29 rfl (by kernel_rfl) ?_
  try simp only [Act.put]
  try simp only [List.setIfInBounds_toArray, List.set_cons_succ, List.set_cons_zero]
  refine rg_row1 rfl rfl (c := #[.string ⟨#[97]⟩, .slice none 0 0]) rfl (fun w => by kernel_rfl) ?_
  intro bU
  try simp only [Act.put]
  try simp only [List.setIfInBounds_toArray, List.set_cons_succ, List.set_cons_zero]
  refine rg_call 26 _ rfl (vs := [.slice (some ⟨bU, 0, none⟩) 1 1]) rfl (fun _ _ => rfl) (v := .string ⟨msgB.toArray⟩) (fun w' hb ht => bytesOf_1 bU w' (told_at ht 1 rfl (by kernel_rfl))) ?_
  try simp only [Act.put]
  try simp only [List.setIfInBounds_toArray, List.set_cons_succ, List.set_cons_zero]
  refine rg_build rfl (ps := [(0, .string ⟨#[113, 0, 0, 0, 0, 0, 0, 0, 0]⟩), (1, .string ⟨msgB.toArray⟩)]) rfl built_chg ?_
  try simp only [Act.put]
  try simp only [List.setIfInBounds_toArray, List.set_cons_succ, List.set_cons_zero]
  refine rg_row1 rfl rfl (c := chg) rfl (fun w => by kernel_rfl) ?_
  intro bB
  intro w7 hb hfs hnd hown
  have hBB : BatchAt w7 bB := hfs _ (List.mem_of_getElem? (i := 3) rfl)
  have HBB := Lib.hid (And.intro hBB (Nat.le_trans F6'.out.below.size (hown bB (by simp)).1))
  have F7 := Lib.hid (F6'.out.later hb)
  have P7 := Lib.hid (P0.out.below F7.out.below)
  clear hb hfs hnd hown hBB F6' P6
  simp only [List.drop_succ_cons, List.drop_zero]
  try simp only [Act.put]
  try simp only [List.setIfInBounds_toArray, List.set_cons_succ, List.set_cons_zero]
  go_wp2_with (go_at_call 24; go_must (refine (Apply_kv P7.out.log P7.out.st P7.out.mp HBB.out.1 P7.out.ngs P7.out.nm (fun h_ => Nat.lt_irrefl _ (Nat.lt_of_lt_of_le (P0.out.log.lt h_) HBB.out.2)) K (HK.out.bel F7.out.below) HBA.out).mono ?_; rintro e w8 ⟨rfl, hs8, hm8, hT8⟩; have H8 := Lib.hid (And.intro hs8 (And.intro hm8 hT8)); clear hs8 hm8 hT8; have Q8 : Hid (PubAt w8 gp g gs (.slice none 0 0) 0) := (H8.out.2.2.block gp (lt_of_some P7.out.pub) (by rintro (h_ | h_); exact P7.out.ngp h_; exact P7.out.gpm h_)).trans P7.out.pub; have c2 := cell_of_row _ _ 2 _ _ _ Q8.out))
  have R8 : Hid (w8.heap[b7]? = some (.cells #[.string ⟨#[97]⟩, .slice none 0 0, .int .u64 0] 84 (0, 0))) := (H8.out.2.2.block b7 (lt_of_some (F7.out.mem (i := 0) rfl)) (by
    have h1 := F7.out.own _ (List.mem_of_getElem? (i := 0) rfl)
    have h2 := lt_of_some P0.out.mp
    rintro (h_ | h_)
    · have := P0.out.log.lt h_; exact absurd (Nat.lt_of_lt_of_le this h1) (Nat.lt_irrefl _)
    · have h1' : w.heap.size ≤ b7 := h1
      omega)).trans (F7.out.mem (i := 0) rfl)
  have T8' : Hid (Turns (fun k => own k ∨ k = m ∨ k = gp) w w8) := (Turns.of_below F7.out.below).trans (H8.out.2.2.more fun k h_ => by rcases h_ with h_ | h_; exact .inl h_; exact .inr (.inl h_))
  clear c2
  refine AnyZ.start [16, 19] (by kernel_rfl) rfl ?_
  apply AnyZ.pure (i := 0) rfl (by kernel_rfl) rfl rfl
  · intro w' K hK
    go_wp2
    exact hK
  · rfl
  apply AnyZ.pure (i := 1) rfl (by kernel_rfl) rfl rfl
  · intro w' K hK
    go_wp2
    exact hK
  · rfl
  apply AnyZ.pure (i := 2) rfl (by kernel_rfl) rfl rfl
  · intro w' K hK
    go_wp2
    exact hK
  · rfl
  apply AnyZ.pure (i := 3) rfl (by kernel_rfl) rfl rfl
  · intro w' K hK
    go_wp2
    exact hK
  · rfl
  apply AnyZ.pure (i := 4) rfl (by kernel_rfl) rfl rfl
  · intro w' K hK
    go_wp2
    exact hK
  · rfl
  apply AnyZ.take (i := 5) rfl (by kernel_rfl) (by kernel_rfl) rfl
  · intro w' hC K hK
    have cc := cell_of_row _ _ 2 _ _ _ (heap_below Q8.out hC)
    go_wp2
    exact hK
  · rfl
  apply AnyZ.take (i := 6) rfl (by kernel_rfl) (by kernel_rfl) rfl
  · intro w' hC K hK
    refine wpList_load_arr rfl _ _ rfl b7 0 rfl #[.string ⟨#[97]⟩, .slice none 0 0, .int .u64 0] _ (range_row (heap_below R8.out hC)) Tryz.underlying84 rfl (by kernel_rfl) ?_
    exact hK
  · rfl
  apply AnyZ.pure (i := 9) rfl (by kernel_rfl) rfl rfl
  · intro w' K hK
    go_wp2
    exact hK
  · rfl
  apply AnyZ.pure (i := 10) rfl (by kernel_rfl) rfl rfl
  · intro w' K hK
    go_wp2
    exact hK
  · rfl
  apply AnyZ.pure (i := 11) rfl (by kernel_rfl) rfl rfl
  · intro w' K hK
    go_wp2
    exact hK
  · rfl
  apply AnyZ.take (i := 12) rfl (by kernel_rfl) (by kernel_rfl) rfl
  · intro w' hC K hK
    have cc := cell_of_row _ _ 3 _ _ _ (heap_below Q8.out hC)
    go_wp2
    exact hK
  · rfl
  apply AnyZ.pure (i := 13) rfl (by kernel_rfl) rfl rfl
  · intro w' K hK
    go_wp2
    exact hK
  · rfl
  apply AnyZ.solo (i := 7) rfl (by kernel_rfl)
  intro w9 hC9
  refine s_row ((BK.start w8).later hC9) rfl rfl (e := 84) (cs := #[.string ⟨#[97]⟩, .slice none 0 0, .int .u64 0]) (fun w => by kernel_rfl) ?_
  intro w10 q h10 hb10
  have HQ := h10.mem (i := 0) rfl
  have B10 : Below w8.heap.size w8 w10 := hC9.trans (hb10.mono hC9.size)
  refine ⟨rfl, B10, ?_⟩
  have HB10 := Lib.hid B10
  clear h10 hb10 hC9
  apply AnyZ.solo (i := 8) rfl (by kernel_rfl)
  intro w11 hC11
  obtain ⟨i0, hi0, hz0, hz1, hz2⟩ := info_parts wtginfo
  refine app1 (s := 3) (y := 48) (base := w11.heap.size) rfl rfl rfl rfl Tryz.underlying82 hi0 hz0 hz1 hz2 rfl (by decide) (World.ownsRow_nil _ _ _ _) (heap_below HQ hC11) rfl (by kernel_rfl) (by decide) (by decide) (Nat.le_refl _) ?_
  intro v12 w12 ho12 hg12 _
  obtain ⟨g2, c12, cur, rfl, hg2, hr12, hc12, hs12⟩ := wtg_row ho12
  have hb12 : Below w11.heap.size w11 w12 := (Below.refl _ _).grown hg12 (Nat.le_refl _) (fun k hk => by cases hk)
  have B12 : Below w10.heap.size w10 w12 := hC11.trans (hb12.mono hC11.size)
  refine ⟨rfl, B12, ?_⟩
  have H12 := Lib.hid (And.intro hg2 (And.intro hr12 (And.intro hc12 hs12)))
  have HB12 : Hid (Below w8.heap.size w8 w12) := HB10.out.trans (B12.mono HB10.out.size)
  have L11 : Hid (w8.heap.size ≤ w11.heap.size) := Nat.le_trans HB10.out.size hC11.size
  clear hg2 hr12 hc12 hs12 B12 hb12 hg12 ho12 hC11 HQ B10 hi0 hz0 hz1 hz2 HB10
  apply AnyZ.pure (i := 14) rfl (by kernel_rfl) rfl rfl
  · intro w' K hK
    go_wp2
    exact hK
  · rfl
  apply AnyZ.pure (i := 15) rfl (by kernel_rfl) rfl rfl
  · intro w' K hK
    go_wp2
    exact hK
  · rfl
  apply AnyZ.soloW (i := 16) rfl (by kernel_rfl)
  intro w13 hC13
  have HB13 : Hid (Below w8.heap.size w8 w13) := HB12.out.trans (hC13.mono HB12.out.size)
  have R13 : Hid (w13.heap[g2]? = some (.cells cur 84 (0, 0))) := heap_below H12.out.2.1 hC13
  have Q13 : Hid (PubAt w13 gp g gs (.slice none 0 0) 0) := heap_below Q8.out HB13.out
  clear hC13 HB12
  have cc := cell_of_row _ _ 2 _ _ _ Q13.out
  have cf := frozen_row Q13.out 2
  go_wp2
  refine ⟨rfl, ?_⟩
  obtain ⟨w14, hw14⟩ : ∃ x, x = w13.setCell ⟨gp, 2, none⟩ (.slice (some ⟨g2, 0, none⟩) 1 c12) := ⟨_, rfl⟩
  have ne2 : g2 ≠ gp := by
    have h1 := lt_of_some Q8.out
    have h2 := H12.out.1
    have h3 := L11.out
    rintro rfl
    omega
  have Q14 : Hid (PubAt w14 gp g gs (.slice (some ⟨g2, 0, none⟩) 1 c12) 0) := by
    show PubAt _ _ _ _ _ _
    rw [hw14]
    exact heap_setCell_same w13 gp 2 _ _ _ Q13.out
  have R14 : Hid (w14.heap[g2]? = some (.cells cur 84 (0, 0))) := by
    show _ = _
    rw [hw14]
    exact (Below.heap_setCell _ _ _ _ ne2).trans R13.out
  have T14 : Hid (Turns (fun k => own k ∨ k = m ∨ k = gp) w w14) := by
    show Turns _ _ _
    rw [hw14]
    exact turns_cell (T8'.out.trans (Turns.of_below HB13.out)) (.inr (.inr rfl)) _
  rw [← hw14]
  clear hw14 cc cf Q13 R13 HB13 T8' R8 Q8
  apply AnyW.pure (i := 17) rfl (by kernel_rfl) rfl rfl
  · intro w' K hK
    go_wp2
    exact hK
  · rfl
  apply AnyW.pure (i := 18) rfl (by kernel_rfl) rfl rfl
  · intro w' K hK
    go_wp2
    exact hK
  · rfl
  have cc := cell_of_row _ _ 3 _ _ _ Q14.out
  have cf := frozen_row Q14.out 3
  apply AnyW.solo (i := 19) rfl (by kernel_rfl)
  go_wp2
  refine ⟨rfl, ?_⟩
  apply AnyW.done (by kernel_rfl)
  clear cc cf
  go_wp2
  go_ret2
  exact ⟨rfl, g2, c12, cur, H12.out.2.2.1, heap_setCell_same _ gp 3 _ _ _ Q14.out, (Below.heap_setCell _ _ _ _ ne2).trans R14.out, H12.out.2.2.2, turns_cell T14.out (.inr (.inr rfl)) _⟩
end Go.Proofs.YtbcpmnnlhdgbhaaGreatDoor

namespace Go.Proofs.YtbcpmnnlhdgbhaaGreatDoor
open Go.RowKit Go.Lib
theorem mkUpd (w : World) : (Instr.makeSlice 67 (.int .i64 1) (.int .i64 1)).run Tryz.prog w = .ok (.slice (some ⟨w.heap.size, 0, none⟩) 1 1) (w.alloc (.cells #[.string ⟨#[]⟩, .slice none 0 0] 29)) := by kernel_rfl
theorem built_upd : (Tryz.prog).built 29 [(0, .string ⟨#[97]⟩), (1, .slice none 0 0)] = some #[.string ⟨#[97]⟩, .slice none 0 0] := by kernel_rfl
theorem BK.drop1 {w0 w : World} {x : Nat × Array Value × TypeId} {bs : List (Nat × Array Value × TypeId)} (F : BK w0 w (x :: bs)) : BK w0 w bs :=
  ⟨F.below, (List.nodup_cons.1 F.nodup).2, fun e he => F.own e (List.mem_cons_of_mem _ he), fun e he => F.row e (List.mem_cons_of_mem _ he)⟩
theorem range_take {w : World} {b n : Nat} {cs : Array Value} {t : TypeId} {f : Nat × Nat} {l : List Value} (h : w.heap[b]? = some (.cells cs t f)) (ht : cs.toList.take n = l) : w.rangeAt b 0 l := fun j v hv => by
  subst ht
  refine range_row h j v ?_
  rw [List.getElem?_take] at hv
  split at hv
  · exact hv
  · cases hv
set_option maxRecDepth 100000 in
set_option maxHeartbeats 2000000 in
theorem Queue_1 {w : World} {gp g gs q c n : Nat} {cur : Array Value} (hp : PubAt w gp g gs (.slice (some ⟨q, 0, none⟩) 1 c) n) (hr : w.heap[q]? = some (.cells cur 84 (0, 0))) (ht : cur.toList.take 3 = [.string ⟨#[97]⟩, .slice none 0 0, .int .u64 0]) :
    Calls Tryz.prog 13 #[.pointer (some ⟨gp, 0, none⟩)] w fun e w' => (∃ A c, e = .returned (.slice A 1 c)) ∧ Below w.heap.size w w' := by
  have F0 := Lib.hid (BK.start w)
  have T0 : Hid True := trivial
  have HP := Lib.hid hp
  have HR := Lib.hid hr
  have HT := Lib.hid ht
  have c0 := cell_of_row _ _ 2 _ _ _ hp
  clear hp hr ht
  go_enter Tryz.func13, Tryz.ntmps13
  go_wp2_with (have hx_ := T0; refine s_make F0.out rfl rfl mkUpd rfl ?_; clear hx_ T0 c0; intro w1 bL h1 _; have F1 := Lib.hid h1; clear h1 F0; have c0 := cell_of_row _ _ 2 _ _ _ (heap_below HP.out F1.out.below))
  clear c0
  go_loopw [19] (fun i wr => ∃ k : Nat, k ≤ 1 ∧ i = .int .i64 (k : Int) ∧ Hid (∃ cs, cs.size = 2 ∧ BK w wr [(bL, cs, 29)])) (fun i _ => 1 - (Go.RowKit.intOf i).toNat)
  case atStart => exact ⟨0, Nat.zero_le _, rfl, _, rfl, F1.out⟩
  case round =>
    obtain ⟨k, hk, rfl, hW⟩ := hrel
    clear F1
    by_cases hlt : k < 1
    · have hlt' : (k : Int) < 1 := by omega
      obtain rfl : k = 0 := by omega
      obtain ⟨cs, hcs, hF⟩ := hW.out
      have HCS := Lib.hid hcs
      have F2 := Lib.hid hF
      have RG : Hid (wr.rangeAt q 0 [.string ⟨#[97]⟩, .slice none 0 0, .int .u64 0]) := range_take (heap_below HR.out hF.below) HT.out
      clear hW hcs hF hk hlt
      have T1 : Hid True := trivial
      go_wp2_with (first
        | (refine wpList_load_arr rfl _ _ rfl q 0 rfl #[.string ⟨#[97]⟩, .slice none 0 0, .int .u64 0] _ (by with_reducible exact RG.out) Tryz.underlying84 rfl (by kernel_rfl) ?_)
        | (have hx_ := T1; refine s_alloc F2.out rfl rfl zeroWtg rfl ?_; clear hx_ T1; intro w3 b5 h1 _; have F3 := Lib.hid h1; clear h1 F2; have T2 : Hid True := trivial)
        | (have hx_ := T2; refine s_store F3.out rfl rfl 0 rfl rfl #[.string ⟨#[97]⟩, .slice none 0 0, .int .u64 0] rfl rfl (by kernel_rfl) (by kernel_rfl) ?_; clear hx_ T2; intro w4 h1; have F4 : Hid (BK w w4 [(b5, #[.string ⟨#[97]⟩, .slice none 0 0, .int .u64 0], 84), (bL, cs, 29)]) := h1; clear h1 F3; have T3 : Hid True := trivial))
      refine wp_region_rg' 10 [none, none, none, none, none, none, none, none, some (Tell.is (.slice none 0 0)), none] (by kernel_rfl) rfl (by kernel_rfl) ⟨Tell.is_good _, trivial⟩ ?_
      simp only [List.take_succ_cons, List.take_zero, List.zip_cons_cons, List.zip_nil_right]
      try simp only [Act.put]
      try simp only [List.setIfInBounds_toArray, List.set_cons_succ, List.set_cons_zero]
      try simp only [Act.put]
      try simp only [List.setIfInBounds_toArray, List.set_cons_succ, List.set_cons_zero]
      refine rg_e rfl fun N hNe => ?_
      go_big_quiet_step (fail)
      refine wpQuiet_nil ?_
      refine rg_e rfl fun N hNe => ?_
      go_big_quiet_step (fail)
      refine wpQuiet_nil ?_
      refine rg_e rfl fun N hNe => ?_
      go_big_quiet_step (fail)
      refine wpQuiet_nil ?_
      refine rg_e rfl fun N hNe => ?_
      go_big_quiet_step (fail)
      refine wpQuiet_nil ?_
      refine rg_load1 _ _ rfl b5 0 rfl (.string ⟨#[97]⟩) (fun w' hb _ => (F4.out.later hb).cell 0 rfl 0) (fun w => by kernel_rfl) ?_
      try simp only [Act.put]
      try simp only [List.setIfInBounds_toArray, List.set_cons_succ, List.set_cons_zero]
      refine rg_e rfl fun N hNe => ?_
      go_big_quiet_step (fail)
      refine wpQuiet_nil ?_
      refine rg_e rfl fun N hNe => ?_
      go_big_quiet_step (fail)
      refine wpQuiet_nil ?_
      refine rg_load1 _ _ rfl b5 1 rfl (.slice none 0 0) (fun w' hb _ => (F4.out.later hb).cell 0 rfl 1) (fun w => by kernel_rfl) ?_
      try simp only [Act.put]
      try simp only [List.setIfInBounds_toArray, List.set_cons_succ, List.set_cons_zero]
      refine rg_call 21 _ rfl (vs := [.slice none 0 0]) rfl (fun _ _ => rfl) (v := .slice none 0 0) (fun w' _ _ => (CloneD_none w').mono fun e w2 h => ⟨h.1, by rw [h.2]; exact Below.refl _ _⟩) ?_
      try simp only [Act.put]
      try simp only [List.setIfInBounds_toArray, List.set_cons_succ, List.set_cons_zero]
      refine rg_build rfl (ps := [(0, .string ⟨#[97]⟩), (1, .slice none 0 0)]) rfl built_upd ?_
      intro w5 hb hfs hnd hown
      have F5 := Lib.hid (F4.out.later hb)
      clear hb hfs hnd hown F4
      simp only [List.drop_succ_cons, List.drop_zero]
      try simp only [Act.put]
      try simp only [List.setIfInBounds_toArray, List.set_cons_succ, List.set_cons_zero]
      have T4 : Hid True := trivial
      go_wp2_with (have hx_ := T4; refine s_store F5.out rfl rfl 1 rfl rfl #[.string ⟨#[97]⟩, .slice none 0 0] rfl (by rw [HCS.out]; rfl) (by kernel_rfl) (by kernel_rfl) ?_; clear hx_ T4; intro w6 h1; have F6 : Hid (BK w w6 [(b5, #[.string ⟨#[97]⟩, .slice none 0 0, .int .u64 0], 84), (bL, #[.string ⟨#[97]⟩, .slice none 0 0], 29)]) := h1; clear h1 F5)
      refine ⟨⟨1, by omega, by go_num, _, rfl, F6.out.drop1⟩, by simp [Go.RowKit.intOf]⟩
    · obtain rfl : k = 1 := by omega
      obtain ⟨cs, hcs, hF⟩ := hW.out
      have F2 := Lib.hid hF
      clear hW hF
      go_wp2
      go_ret
      exact ⟨⟨_, _, rfl⟩, F2.out.below⟩
end Go.Proofs.YtbcpmnnlhdgbhaaGreatDoor

namespace Go.Proofs.YtbcpmnnlhdgbhaaGreatDoor
open Go.RowKit Go.Lib
set_option maxRecDepth 100000 in
set_option maxHeartbeats 1000000 in
theorem pdir_nil (w : World) : Calls Tryz.prog 36 #[.pointer none] w (fun e w' => e = .returned (.pointer none) ∧ w' = w) := by
  go_enter Tryz.func36, Tryz.ntmps36
  go_wp2
  go_ret
  exact ⟨rfl, rfl⟩
set_option maxRecDepth 100000 in
set_option maxHeartbeats 1000000 in
theorem PQueue_nil (w : World) : Calls Tryz.prog 13 #[.pointer none] w (fun e w' => e = .returned (.slice none 0 0) ∧ w' = w) := by
  go_enter Tryz.func13, Tryz.ntmps13
  go_wp2
  go_ret
  exact ⟨rfl, rfl⟩
set_option maxRecDepth 100000 in
set_option maxHeartbeats 1000000 in
theorem PCerts_nil (w : World) : Calls Tryz.prog 16 #[.pointer none] w (fun e w' => e = .returned (.slice none 0 0) ∧ w' = w) := by
  go_enter Tryz.func16, Tryz.ntmps16
  go_wp2_with (first
    | (go_at_call 36; refine (pdir_nil _).mono ?_; rintro e w1 ⟨rfl, hw_⟩; have hw_ := hw_.symm; subst hw_)
    | (go_at_call 48; refine (DCerts_nil _).mono ?_; rintro e w1 ⟨rfl, hw_⟩; have hw_ := hw_.symm; subst hw_))
  go_ret
  exact ⟨rfl, rfl⟩
set_option maxRecDepth 100000 in
set_option maxHeartbeats 1000000 in
theorem PMoving_nil (w : World) : Calls Tryz.prog 15 #[.pointer none] w (fun e w' => e = .returned (.int .i64 0) ∧ w' = w) := by
  go_enter Tryz.func15, Tryz.ntmps15
  go_wp2_with (first
    | (go_at_call 36; refine (pdir_nil _).mono ?_; rintro e w1 ⟨rfl, hw_⟩; have hw_ := hw_.symm; subst hw_)
    | (go_at_call 27; refine (DMoving_nil _).mono ?_; rintro e w1 ⟨rfl, hw_⟩; have hw_ := hw_.symm; subst hw_))
  go_ret
  exact ⟨rfl, rfl⟩
set_option maxRecDepth 100000 in
set_option maxHeartbeats 1000000 in
theorem PDevices_nil (s : ByteArray) (w : World) : Calls Tryz.prog 11 #[.pointer none, .string s] w (fun e w' => e = .returned (.tuple #[.slice none 0 0, .int .i64 0]) ∧ w' = w) := by
  go_enter Tryz.func11, Tryz.ntmps11
  go_wp2_with (first
    | (go_at_call 36; refine (pdir_nil _).mono ?_; rintro e w1 ⟨rfl, hw_⟩; have hw_ := hw_.symm; subst hw_)
    | (go_at_call 40; refine (DDevices_nil s _).mono ?_; rintro e w1 ⟨rfl, hw_⟩; have hw_ := hw_.symm; subst hw_))
  go_ret2
  exact ⟨rfl, rfl⟩
end Go.Proofs.YtbcpmnnlhdgbhaaGreatDoor

namespace Go.Proofs.YtbcpmnnlhdgbhaaGreatDoor
open Go.RowKit Go.Lib
theorem Zero.same {t : TypeId} {Z Y : Array Value} (h : Zero t Z) (h' : Zero t Y) : Z.size = Y.size := by
  have := h.2.2.1.symm.trans h'.2.2.1
  exact Option.some.inj this
theorem SOpen_nil (w : World) : Calls Tryz.prog 41 #[.pointer none] w fun e w' => e = .returned (.tuple #[.pointer none, .int .i64 1]) ∧ w' = w := by
  go_enter Tryz.func41, Tryz.ntmps41
  go_wp2_with (go_at_call 77; go_must (refine (Open_nil _).mono ?_; rintro e w_ ⟨rfl, hw_⟩; have hw_ := hw_.symm; subst hw_))
  go_ret2
  exact ⟨rfl, rfl⟩
set_option maxRecDepth 100000 in
set_option maxHeartbeats 1000000 in
theorem POpen_nil (l : List UInt8) (w : World) : Calls Tryz.prog 12 #[.pointer none, .agg (bvs l).toArray] w fun e w' => e = .returned (.tuple #[.pointer none, .int .i64 1]) ∧ Below w.heap.size w w' := by
  have F0 := Lib.hid (BK.start w)
  have T0 : Hid True := trivial
  go_enter Tryz.func12, Tryz.ntmps12
  go_wp2_with (first
    | (have hx_ := T0; refine s_box F0.out rfl rfl rfl rfl ?_; clear hx_ T0; intro w1 b1 h1 _; have F1 := Lib.hid h1; clear h1 F0)
    | (go_at_call 41; refine (SOpen_nil _).mono ?_; rintro e w_ ⟨rfl, hw_⟩; have hw_ := hw_.symm; subst hw_))
  go_ret2
  exact ⟨rfl, F1.out.below⟩
set_option maxRecDepth 100000 in
set_option maxHeartbeats 1000000 in
theorem PSubmit_nil (s : ByteArray) (w : World) : Calls Tryz.prog 5 #[.pointer none, .agg #[.string s, .slice none 0 0]] w fun e w' => e = .returned (.tuple #[.int .i64 0, .int .i64 1]) ∧ Below w.heap.size w w' := by
  have F0 := Lib.hid (BK.start w)
  have T0 : Hid True := trivial
  go_enter Tryz.func5, Tryz.ntmps5
  go_wp2_with (have hx_ := T0; refine s_box F0.out rfl rfl rfl rfl ?_; clear hx_ T0; intro w1 b1 h1 _; have F1 := Lib.hid h1; clear h1 F0)
  go_ret2
  exact ⟨rfl, F1.out.below⟩
set_option maxRecDepth 100000 in
set_option maxHeartbeats 1000000 in
theorem PTick_nil (n : Int) (w : World) : Calls Tryz.prog 6 #[.pointer none, .int .i64 n] w (ZRet 34 [.bool false, .int .i64 1] w) := by
  have F0 := Lib.hid (BK.start w)
  have T0 : Hid True := trivial
  have u0 := Tryz.underlying34
  obtain ⟨Z, hZ⟩ := zRoot
  have HZ := Lib.hid hZ
  have Z1 := Lib.hid hZ.1
  have B1 := Lib.hid hZ.2.1
  have I1 := Lib.hid hZ.2.2.1
  have O1 := Lib.hid hZ.2.2.2
  clear hZ
  go_enter Tryz.func6, Tryz.ntmps6
  go_wp2_with (first
    | (have hx_ := T0; refine s_alloc F0.out rfl rfl Z1.out rfl ?_; clear hx_ T0; intro w1 b1 h1 _; have F1 := Lib.hid h1; clear h1 F0; have T1 : Hid True := trivial)
    | (have hx_ := T1; refine s_build rfl (parts := []) rfl (ps := []) rfl B1.out ?_; clear hx_ T1; have T2 : Hid True := trivial)
    | (have hx_ := T2; refine s_store F1.out rfl rfl 0 rfl rfl Z rfl (rfl) (I1.out) (O1.out) ?_; clear hx_ T2; intro w2 h1; have F2 := Lib.hid h1; clear h1 F1; have T3 : Hid True := trivial))
  have hl := ret_row (F2.out.mem (i := 0) rfl) u0 rfl I1.out
  exact bodyPost_ret (v := .tuple #[.agg Z, .bool false, .int .i64 1]) (by simp [results, Tryz.results6, asAddr, hl]) rfl ⟨Z, HZ.out, rfl, F2.out.below⟩
set_option maxRecDepth 100000 in
set_option maxHeartbeats 1000000 in
theorem PRotate_nil (l : List UInt8) (w : World) : Calls Tryz.prog 7 #[.pointer none, .agg (bvs l).toArray] w (ZRet 40 [.int .i64 1] w) := by
  have F0 := Lib.hid (BK.start w)
  have T0 : Hid True := trivial
  have u0 := Tryz.underlying40
  obtain ⟨Z, hZ⟩ := zCert
  have HZ := Lib.hid hZ
  have Z1 := Lib.hid hZ.1
  have B1 := Lib.hid hZ.2.1
  have I1 := Lib.hid hZ.2.2.1
  have O1 := Lib.hid hZ.2.2.2
  clear hZ
  go_enter Tryz.func7, Tryz.ntmps7
  go_wp2_with (first
    | (have hx_ := T0; refine s_box F0.out rfl rfl rfl rfl ?_; clear hx_ T0; intro w1 b1 h1 _; have F1 := Lib.hid h1; clear h1 F0; have T1 : Hid True := trivial)
    | (have hx_ := T1; refine s_alloc F1.out rfl rfl Z1.out rfl ?_; clear hx_ T1; intro w2 b2 h1 _; have F2 := Lib.hid h1; clear h1 F1; have T2 : Hid True := trivial)
    | (have hx_ := T2; refine s_build rfl (parts := []) rfl (ps := []) rfl B1.out ?_; clear hx_ T2; have T3 : Hid True := trivial)
    | (have hx_ := T3; refine s_store F2.out rfl rfl 0 rfl rfl Z rfl (rfl) (I1.out) (O1.out) ?_; clear hx_ T3; intro w3 h1; have F3 := Lib.hid h1; clear h1 F2; have T4 : Hid True := trivial))
  have hl := ret_row (F3.out.mem (i := 0) rfl) u0 rfl I1.out
  exact bodyPost_ret (v := .tuple #[.agg Z, .int .i64 1]) (by simp [results, Tryz.results7, asAddr, hl]) rfl ⟨Z, HZ.out, rfl, F3.out.below⟩
set_option maxRecDepth 100000 in
set_option maxHeartbeats 1000000 in
theorem PLookup_nil (s : ByteArray) (w : World) : Calls Tryz.prog 8 #[.pointer none, .string s] w (ZRet 48 [.int .i64 1] w) := by
  have F0 := Lib.hid (BK.start w)
  have T0 : Hid True := trivial
  have u0 := Tryz.underlying48
  obtain ⟨Z, hZ⟩ := zLookup
  have HZ := Lib.hid hZ
  have Z1 := Lib.hid hZ.1
  have B1 := Lib.hid hZ.2.1
  have I1 := Lib.hid hZ.2.2.1
  have O1 := Lib.hid hZ.2.2.2
  clear hZ
  go_enter Tryz.func8, Tryz.ntmps8
  go_wp2_with (first
    | (have hx_ := T0; refine s_alloc F0.out rfl rfl Z1.out rfl ?_; clear hx_ T0; intro w1 b1 h1 _; have F1 := Lib.hid h1; clear h1 F0; have T1 : Hid True := trivial)
    | (go_at_call 36; have hx_ := T1; refine (pdir_nil _).mono ?_; clear hx_ T1; rintro e w_ ⟨rfl, hw_⟩; have hw_ := hw_.symm; subst hw_; have T2 : Hid True := trivial)
    | (go_at_call 37; have hx_ := T2; refine (DLookup_nil s _).mono ?_; clear hx_ T2; rintro e w2 ⟨Y, hY, he, hb⟩; have F2 := Lib.hid (F1.out.later hb); have he' : e = .returned (.tuple #[.agg Y, .int .i64 1]) := he; subst he'; have SY := Lib.hid (hY.same HZ.out); have HY := Lib.hid hY; have IY := Lib.hid hY.2.2.1; have OY := Lib.hid hY.2.2.2; clear he hb hY F1; have T3 : Hid True := trivial)
    | (have hx_ := T3; refine s_store F2.out rfl rfl 0 rfl rfl Y rfl SY.out IY.out OY.out ?_; clear hx_ T3; intro w3 h1; have F3 := Lib.hid h1; clear h1 F2; have T4 : Hid True := trivial))
  have hl := ret_row (F3.out.mem (i := 0) rfl) u0 rfl IY.out
  exact bodyPost_ret (v := .tuple #[.agg Y, .int .i64 1]) (by simp [results, Tryz.results8, asAddr, hl]) rfl ⟨Y, HY.out, rfl, F3.out.below⟩
set_option maxRecDepth 100000 in
set_option maxHeartbeats 1000000 in
theorem PHistory_nil (s : ByteArray) (w : World) : Calls Tryz.prog 9 #[.pointer none, .string s] w (ZRet 54 [.int .i64 1] w) := by
  have F0 := Lib.hid (BK.start w)
  have T0 : Hid True := trivial
  have u0 := Tryz.underlying54
  obtain ⟨Z, hZ⟩ := zHistory
  have HZ := Lib.hid hZ
  have Z1 := Lib.hid hZ.1
  have B1 := Lib.hid hZ.2.1
  have I1 := Lib.hid hZ.2.2.1
  have O1 := Lib.hid hZ.2.2.2
  clear hZ
  go_enter Tryz.func9, Tryz.ntmps9
  go_wp2_with (first
    | (have hx_ := T0; refine s_alloc F0.out rfl rfl Z1.out rfl ?_; clear hx_ T0; intro w1 b1 h1 _; have F1 := Lib.hid h1; clear h1 F0; have T1 : Hid True := trivial)
    | (go_at_call 36; have hx_ := T1; refine (pdir_nil _).mono ?_; clear hx_ T1; rintro e w_ ⟨rfl, hw_⟩; have hw_ := hw_.symm; subst hw_; have T2 : Hid True := trivial)
    | (go_at_call 38; have hx_ := T2; refine (DHistory_nil s _).mono ?_; clear hx_ T2; rintro e w2 ⟨Y, hY, he, hb⟩; have F2 := Lib.hid (F1.out.later hb); have he' : e = .returned (.tuple #[.agg Y, .int .i64 1]) := he; subst he'; have SY := Lib.hid (hY.same HZ.out); have HY := Lib.hid hY; have IY := Lib.hid hY.2.2.1; have OY := Lib.hid hY.2.2.2; clear he hb hY F1; have T3 : Hid True := trivial)
    | (have hx_ := T3; refine s_store F2.out rfl rfl 0 rfl rfl Y rfl SY.out IY.out OY.out ?_; clear hx_ T3; intro w3 h1; have F3 := Lib.hid h1; clear h1 F2; have T4 : Hid True := trivial))
  have hl := ret_row (F3.out.mem (i := 0) rfl) u0 rfl IY.out
  exact bodyPost_ret (v := .tuple #[.agg Y, .int .i64 1]) (by simp [results, Tryz.results9, asAddr, hl]) rfl ⟨Y, HY.out, rfl, F3.out.below⟩
set_option maxRecDepth 100000 in
set_option maxHeartbeats 1000000 in
theorem PStep_nil (n : Int) (w : World) : Calls Tryz.prog 10 #[.pointer none, .int .u64 n] w (ZRet 60 [.int .i64 1] w) := by
  have F0 := Lib.hid (BK.start w)
  have T0 : Hid True := trivial
  have u0 := Tryz.underlying60
  obtain ⟨Z, hZ⟩ := zStep
  have HZ := Lib.hid hZ
  have Z1 := Lib.hid hZ.1
  have B1 := Lib.hid hZ.2.1
  have I1 := Lib.hid hZ.2.2.1
  have O1 := Lib.hid hZ.2.2.2
  clear hZ
  go_enter Tryz.func10, Tryz.ntmps10
  go_wp2_with (first
    | (have hx_ := T0; refine s_alloc F0.out rfl rfl Z1.out rfl ?_; clear hx_ T0; intro w1 b1 h1 _; have F1 := Lib.hid h1; clear h1 F0; have T1 : Hid True := trivial)
    | (go_at_call 36; have hx_ := T1; refine (pdir_nil _).mono ?_; clear hx_ T1; rintro e w_ ⟨rfl, hw_⟩; have hw_ := hw_.symm; subst hw_; have T2 : Hid True := trivial)
    | (go_at_call 39; have hx_ := T2; refine (DStep_nil n _).mono ?_; clear hx_ T2; rintro e w2 ⟨Y, hY, he, hb⟩; have F2 := Lib.hid (F1.out.later hb); have he' : e = .returned (.tuple #[.agg Y, .int .i64 1]) := he; subst he'; have SY := Lib.hid (hY.same HZ.out); have HY := Lib.hid hY; have IY := Lib.hid hY.2.2.1; have OY := Lib.hid hY.2.2.2; clear he hb hY F1; have T3 : Hid True := trivial)
    | (have hx_ := T3; refine s_store F2.out rfl rfl 0 rfl rfl Y rfl SY.out IY.out OY.out ?_; clear hx_ T3; intro w3 h1; have F3 := Lib.hid h1; clear h1 F2; have T4 : Hid True := trivial))
  have hl := ret_row (F3.out.mem (i := 0) rfl) u0 rfl IY.out
  exact bodyPost_ret (v := .tuple #[.agg Y, .int .i64 1]) (by simp [results, Tryz.results10, asAddr, hl]) rfl ⟨Y, HY.out, rfl, F3.out.below⟩
set_option maxRecDepth 100000 in
set_option maxHeartbeats 1000000 in
theorem PFirst_nil (w : World) : Calls Tryz.prog 17 #[.pointer none] w (KRet keyZ w) := by
  have F0 := Lib.hid (BK.start w)
  have T0 : Hid True := trivial
  have OK : keyZ.ok := ⟨rfl, rfl⟩
  obtain ⟨cs, hcs⟩ : ∃ z, z = keyZ.cs := ⟨_, rfl⟩
  have CD : Hid (∀ w, Calls Tryz.prog 49 #[.pointer none] w (fun e w' => e = .returned (.agg cs) ∧ Below w.heap.size w w')) := fun w => by rw [hcs]; exact DFirst_nil w
  have Z0 : Hid (∀ w, (zeroValue 38).run Tryz.prog w = .ok (.agg cs) w) := by show ∀ _, _; rw [hcs]; exact zeroKey
  have IC : Hid ((Tryz.prog.info? 38).map (·.size) = some cs.size) := by show _ = _; rw [hcs]; kernel_rfl
  have OC : Hid (cs.all (·.oneCell') = true) := by show _ = _; rw [hcs]; exact KeyV.cells _
  have HC := Lib.hid hcs
  clear hcs
  go_enter Tryz.func17, Tryz.ntmps17
  go_wp2_with (first
    | (have hx_ := T0; refine s_alloc F0.out rfl rfl Z0.out rfl ?_; clear hx_ T0; intro w1 b1 h1 _; have F1 := Lib.hid h1; clear h1 F0; have T1 : Hid True := trivial)
    | (go_at_call 36; have hx_ := T1; refine (pdir_nil _).mono ?_; clear hx_ T1; rintro e w_ ⟨rfl, hw_⟩; have hw_ := hw_.symm; subst hw_; have T2 : Hid True := trivial)
    | (go_at_call 49; have hx_ := T2; refine (CD.out _).mono ?_; clear hx_ T2; rintro e w2 ⟨rfl, hb⟩; have F2 := Lib.hid (F1.out.later hb); clear hb F1; have T3 : Hid True := trivial)
    | (have hx_ := T3; refine s_store F2.out rfl rfl 0 rfl rfl cs rfl rfl IC.out OC.out ?_; clear hx_ T3; intro w3 h1; have F3 := Lib.hid h1; clear h1 F2))
  have hl0 := F3.out.mem (i := 0) rfl
  have hB := F3.out.below
  have hc := HC.out
  clear F3 Z0 IC OC CD HC
  subst hc
  have hl := retKey OK hl0
  exact bodyPost_ret (v := .agg keyZ.cs) (by simp [results, Tryz.results17, asAddr, Act.put, hl]) rfl ⟨rfl, hB⟩
set_option maxRecDepth 100000 in
set_option maxHeartbeats 1000000 in
theorem PRoot_nil (w : World) : Calls Tryz.prog 14 #[.pointer none] w (RootRet rootZ0 w) := by
  have F0 := Lib.hid (BK.start w)
  have T0 : Hid True := trivial
  have OK : rootZ0.ok := ⟨by decide, by decide, by decide, by decide, by decide, by decide, by decide⟩
  obtain ⟨cs, hcs⟩ : ∃ z, z = rootZ0.cs := ⟨_, rfl⟩
  have CD : Hid (∀ w, Calls Tryz.prog 32 #[.pointer none] w (fun e w' => e = .returned (.agg cs) ∧ Below w.heap.size w w')) := fun w => by rw [hcs]; exact DRoot_nil w
  have Z0 : Hid (∀ w, (zeroValue 34).run Tryz.prog w = .ok (.agg cs) w) := by show ∀ _, _; rw [hcs]; exact zeroRoot
  have IC : Hid ((Tryz.prog.info? 34).map (·.size) = some cs.size) := by show _ = _; rw [hcs]; kernel_rfl
  have OC : Hid (cs.all (·.oneCell') = true) := by show _ = _; rw [hcs]; exact RootV.cells _
  have HC := Lib.hid hcs
  clear hcs
  go_enter Tryz.func14, Tryz.ntmps14
  go_wp2_with (first
    | (have hx_ := T0; refine s_alloc F0.out rfl rfl Z0.out rfl ?_; clear hx_ T0; intro w1 b1 h1 _; have F1 := Lib.hid h1; clear h1 F0; have T1 : Hid True := trivial)
    | (go_at_call 36; have hx_ := T1; refine (pdir_nil _).mono ?_; clear hx_ T1; rintro e w_ ⟨rfl, hw_⟩; have hw_ := hw_.symm; subst hw_; have T2 : Hid True := trivial)
    | (go_at_call 32; have hx_ := T2; refine (CD.out _).mono ?_; clear hx_ T2; rintro e w2 ⟨rfl, hb⟩; have F2 := Lib.hid (F1.out.later hb); clear hb F1; have T3 : Hid True := trivial)
    | (have hx_ := T3; refine s_store F2.out rfl rfl 0 rfl rfl cs rfl rfl IC.out OC.out ?_; clear hx_ T3; intro w3 h1; have F3 := Lib.hid h1; clear h1 F2))
  have hl0 := F3.out.mem (i := 0) rfl
  have hB := F3.out.below
  have hc := HC.out
  clear F3 Z0 IC OC CD HC
  subst hc
  have hl := retRoot OK hl0
  exact bodyPost_ret (v := .agg rootZ0.cs) (by simp [results, Tryz.results14, asAddr, Act.put, hl]) rfl ⟨rfl, hB⟩
end Go.Proofs.YtbcpmnnlhdgbhaaGreatDoor

namespace Go.Proofs.YtbcpmnnlhdgbhaaGreatDoor
open Go.RowKit Go.Lib
def secP : List UInt8 := 1 :: List.replicate 31 0
theorem secP_len : secP.length = 32 := by decide
theorem built_secP : (Tryz.prog).built 31 [(0, .int .u8 1)] = some (bvs secP).toArray := by kernel_rfl
theorem built_updS (s : ByteArray) : (Tryz.prog).built 29 [(0, .string s)] = some #[.string s, .slice none 0 0] := by kernel_rfl
theorem PubS.base {w : World} {base N gd gl gs m gp g : Nat} {own : Nat → Prop} (h : PubS w base own N gd gl gs m gp g) {k : Nat} (hk : own k) : base ≤ k := by
  obtain ⟨_, _, _, _, _, hx⟩ := h.log
  exact (hx.bnd k hk).1
/-- Behind what turns only blocks of its own. -/
theorem turns_below {own : Nat → Prop} {w0 w w' : World} (hb : Below w0.heap.size w0 w) (hT : Turns own w w') (ho : ∀ k, own k → w0.heap.size ≤ k) : Below w0.heap.size w0 w' :=
  hb.trans ⟨hT.os, hT.tape, hT.output, hT.size, fun k hk => hT.block k (Nat.lt_of_lt_of_le hk hb.size) (fun h => absurd (ho k h) (by omega))⟩
set_option maxRecDepth 100000 in
set_option maxHeartbeats 2000000 in
theorem awake_any (Kt Kq : List Int) (w : World) (hw : NW w Kt Kq) : Calls Tryz.prog 4 #[] w (fun e w' => e = .returned (.bool true) ∧ Below w.heap.size w w') := by
  have T0 : Hid True := trivial
  have HW := Lib.hid hw
  have HP : Hid (0 < w.heap.size) := Nat.lt_of_le_of_lt (Nat.zero_le _) hw.1.1
  obtain ⟨sec, hsec⟩ : ∃ z, z = secP := ⟨_, rfl⟩
  have LS : Hid (sec.length = 32) := by show _ = _; rw [hsec]; exact secP_len
  have BS : Hid ((Tryz.prog).built 31 [(0, .int .u8 1)] = some (bvs sec).toArray) := by show _ = _; rw [hsec]; exact built_secP
  clear hw hsec
  go_enter Tryz.func4, Tryz.ntmps4
  go_wp2_with (first
    | (go_at_call 18; have hx_ := T0; refine (New_dsk 256 (by decide) (by decide) _).mono ?_; clear hx_ T0; rintro e w1 ⟨gd, S, P, od, rfl, hD, hb⟩; have H1 := Lib.hid (And.intro hD hb); clear hD hb; have T1 : Hid True := trivial)
    | (have hx_ := T1; refine s_build rfl (parts := [(0, .const (.int .u8 1))]) rfl (ps := [(0, .int .u8 1)]) rfl BS.out ?_; clear hx_ T1; have T2 : Hid True := trivial)
    | (go_at_call 12; have hx_ := T2; refine (POpen_any Kt Kq sec LS.out H1.out.1 H1.out.2.size (by decide) (HW.out.bel H1.out.2)).mono ?_; clear hx_ T2; rintro e w2 ⟨own, gl, gs, m, gp, g, gss, gn, gl2, gm, v, B, rfl, hO⟩; have H2 := Lib.hid hO; clear hO; have B2 := Lib.hid (H1.out.2.trans (H2.out.2.2.1.mono H1.out.2.size)); have T3 : Hid True := trivial)
    | (have hx_ := T3; refine s_build rfl (parts := [(0, .const (.string ⟨#[97]⟩))]) rfl (ps := [(0, .string ⟨#[97]⟩)]) rfl (built_updS _) ?_; clear hx_ T3; have T4 : Hid True := trivial)
    | (go_at_call 5; have hx_ := T4; refine (Submit_1 H2.out.1 HP.out Kt (HW.out.1.bel B2.out)).mono ?_; clear hx_ T4; rintro e w3 ⟨rfl, q, c, cur, hc, hp, hr, ht, hT⟩; have H3 := Lib.hid (And.intro hp (And.intro hr ht)); have B3 := Lib.hid (turns_below B2.out hT (fun k hk => by
        rcases hk with hk | rfl | rfl
        · exact H2.out.1.base hk
        · exact Nat.le_trans H1.out.2.size H2.out.2.2.2.2.1
        · exact Nat.le_trans H1.out.2.size H2.out.2.2.2.2.2.1)); clear hc hp hr ht hT B2; have T5 : Hid True := trivial)
    | (go_at_call 13; have hx_ := T5; refine (Queue_1 H3.out.1 H3.out.2.1 H3.out.2.2).mono ?_; clear hx_ T5; rintro e w4 ⟨⟨A, cc, rfl⟩, hb⟩; have B4 := Lib.hid (B3.out.trans (hb.mono B3.out.size)); clear hb B3))
  go_ret
  exact ⟨rfl, B4.out⟩
end Go.Proofs.YtbcpmnnlhdgbhaaGreatDoor
