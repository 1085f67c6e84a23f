/- The texts D9 Eq64r D10 W9 Y0 Y1 of this work, merged by wip/merge.py. No conditions. -/
import Derived.Test.YtbcpmnnlhdgbhaaGreatDoorQG30
import Derived.Test.YtbcpmnnlhdgbhaaGreatDoorQG19
import Derived.Test.YtbcpmnnlhdgbhaaGreatDoorQG25
import Derived.BigQuiet
import Derived.Test.YtbcpmnnlhdgbhaaGreatDoorQG06
namespace Go.Proofs.YtbcpmnnlhdgbhaaGreatDoor
open Go.RowKit
variable {w w' : World} {base g : Nat} {own : Nat → Prop} {s : DS} {S P : Value}
def zero64 : List UInt8 := List.replicate 64 0
theorem buildZ {ops : Array Oper} {rest : List Oper} {o : Oper} {a : Act} {w : World} {Q : Exit → Act → World → Prop} (hg : o.guard = none) (ho : o.op = .build 32 #[])
    (h : wpList Tryz.prog ops Q rest (a.put o.dst (.agg (bvs zero64).toArray)) w) : wpList Tryz.prog ops Q (o :: rest) a w := by
  have hb : Tryz.prog.built 32 ((#[] : Array (Nat × Operand)).map fun (i, x) => (i, a.eval x)).toList = some (bvs zero64).toArray := by kernel_rfl
  refine wpList_plain hg fun K hK => wp_build _ _ ho (by rw [hb]; rfl) ?_
  rw [hb]
  exact hK _ _ h
def lastP (l : List (Nat × List UInt8)) (n : Nat) : Option (List UInt8) := (l.reverse.find? fun p => p.1 == n).map (·.2)
def DS.peek (s : DS) (n : Nat) : List UInt8 := (lastP s.pend n).getD (s.secs.getD n [])
def DS.read (s : DS) (n : Int) : List UInt8 × Int := if 0 ≤ n ∧ n < (s.secs.length : Int) then if s.down = true then (zero64, 9) else (s.peek n.toNat, 0) else (zero64, 1)
/-- None of those from k on is at n. -/
def NoneAt (l : List (Nat × List UInt8)) (n k : Nat) : Prop := ∀ j p, l[j]? = some p → k ≤ j → p.1 ≠ n
theorem NoneAt.start (l : List (Nat × List UInt8)) (n : Nat) : NoneAt l n l.length := fun j p hp hj => by rw [List.getElem?_eq_none hj] at hp; cases hp
theorem NoneAt.step {l : List (Nat × List UInt8)} {n k : Nat} {p : Nat × List UInt8} (h : NoneAt l n (k + 1)) (hp : l[k]? = some p) (hn : p.1 ≠ n) : NoneAt l n k := fun j q hq hj => by
  rcases Nat.eq_or_lt_of_le hj with rfl | hj
  · rw [hp] at hq; cases hq; exact hn
  · exact h j q hq hj
theorem lastP_none {l : List (Nat × List UInt8)} {n : Nat} (h : NoneAt l n 0) : lastP l n = none := by
  unfold lastP
  rw [List.find?_eq_none.2]
  · rfl
  · intro p hp
    obtain ⟨j, hj⟩ := List.mem_iff_getElem?.1 (List.mem_reverse.1 hp)
    have := h j p hj (Nat.zero_le _)
    simpa using this
theorem lastP_append (l m : List (Nat × List UInt8)) (n : Nat) : lastP (l ++ m) n = (lastP m n).or (lastP l n) := by
  unfold lastP
  rw [List.reverse_append, List.find?_append]
  cases List.find? (fun p => p.1 == n) m.reverse <;> simp
theorem lastP_some {l : List (Nat × List UInt8)} {n k : Nat} {p : Nat × List UInt8} (h : NoneAt l n (k + 1)) (hp : l[k]? = some p) (hn : p.1 = n) : lastP l n = some p.2 := by
  have h1 : l = l.take (k + 1) ++ l.drop (k + 1) := (List.take_append_drop _ _).symm
  have h2 : l.take (k + 1) = l.take k ++ [p] := by rw [List.take_add_one, hp]; rfl
  rw [h1, lastP_append, lastP_none, h2, lastP_append]
  · simp [lastP, hn]
  · intro j q hq _
    rw [List.getElem?_drop] at hq
    exact h _ q hq (by omega)
def ReadPost (x : List UInt8 × Int) (w : World) (e : Ending) (w' : World) : Prop := e = .returned (.tuple #[.agg (bvs x.1).toArray, .int .i64 x.2]) ∧ Below w.heap.size w w'
theorem ReadPost.mk {n : Int} {x : List UInt8} {c : Int} (he : s.read n = (x, c)) {v : Value} (hv : v = .agg (bvs x).toArray) (h : Below w.heap.size w w') : ReadPost (s.read n) w (.returned (.tuple #[v, .int .i64 c])) w' := ⟨by rw [he, hv], h⟩
set_option maxRecDepth 100000 in
set_option maxHeartbeats 4000000 in
theorem Read_any (h : Dsk w base own g s S P) (n : Int) : Calls Tryz.prog 112 #[.pointer (some ⟨g, 0, none⟩), .int .i64 n] w (ReadPost (s.read n) w) := by
  obtain ⟨zs, hzs⟩ : ∃ zs : Array Value, zs = (bvs zero64).toArray := ⟨_, rfl⟩
  have hz28 : ∀ w, (zeroValue 32).run Tryz.prog w = .ok (.agg zs) w := fun w => by rw [hzs]; kernel_rfl
  have Hzs := Lib.hid hzs
  have hzz : zs.size = 64 := by rw [hzs]; rfl
  have Hzz := Lib.hid hzz
  clear hzs hzz
  have hA := fun cs => h.below ((Below.refl _ _).alloc (Nat.le_refl w.heap.size) (.cells cs 32))
  by_cases hin : 0 ≤ n ∧ n < (s.secs.length : Int)
  · have hdin : decide (0 ≤ n ∧ n < (s.secs.length : Int)) = true := decide_eq_true hin
    cases hdn : s.down with
    | true =>
      have Hdn := Lib.hid hdn
      clear hdn
      have f3 := (hA zs).field (i := 3) rfl
      rw [Hdn.out] at f3
      go_enter Tryz.func112, Tryz.ntmps112
      go_wp2_with (first
        | (go_at_call 143; go_must (refine (has_any (hA _) n).mono ?_; rintro e w1 ⟨rfl, rfl⟩; rw [hdin]))
        | (refine buildZ rfl rfl ?_; rw [← Hzs.out])
        | (refine wpList_store_mid rfl _ _ _ rfl w.heap.size 0 zs rfl rfl (by rw [Hzz.out]; exact there_new w _ _ 64 (by rw [Hzz.out]; exact Nat.le_refl _)) (by rw [Hzz.out]; kernel_rfl) (by rw [Hzs.out]; exact all_oneCell_toArray (bvs_one _)) ?_))
      have hld : (loadVar 32 ⟨w.heap.size, 0, none⟩).run Tryz.prog ((w.alloc (.cells zs 32)).setCells w.heap.size 0 zs.toList) = .ok (.agg zs.toList.toArray) ((w.alloc (.cells zs 32)).setCells w.heap.size 0 zs.toList) :=
        run_loadVar_mid _ _ _ _ zs.toList _ (World.rangeAt_setCells_same _ _ _ _ (by rw [Array.length_toList, Hzz.out]; exact there_new w _ _ 64 (by rw [Hzz.out]; exact Nat.le_refl _))) Tryz.underlying32 rfl (by rw [Array.length_toList, Hzz.out]; kernel_rfl)
      refine bodyPost_ret (v := .tuple #[.agg zs.toList.toArray, .int .i64 9]) (by simp [results, Tryz.results112, asAddr, hld]) rfl ?_
      exact ReadPost.mk (by unfold DS.read; rw [if_pos hin, if_pos Hdn.out]) (by rw [Hzs.out]) (below_setCells _ _ _ ((Below.refl _ _).alloc (Nat.le_refl _) _) (Nat.le_refl _))
    | false =>
      have Hdn := Lib.hid hdn
      clear hdn
      have hA0 := hA zs
      have f3 := hA0.field (i := 3) rfl
      rw [Hdn.out] at f3
      have f1 := hA0.field (i := 1) rfl
      obtain ⟨AP, cP, rfl⟩ := h.formP
      have hmx := h.pendMax
      have hmx2 : (0 : Int) ≤ (s.pend.length : Int) := by omega
      obtain ⟨nn, rfl⟩ : ∃ nn : Nat, n = (nn : Int) := ⟨n.toNat, by omega⟩
      have hnn : nn < s.secs.length := by omega
      have HA0 := Lib.hid hA0
      have Hin := Lib.hid hin
      clear hin hA0
      go_enter Tryz.func112, Tryz.ntmps112
      go_wp2_with (first
        | (go_at_call 143; go_must (refine (has_any (hA _) _).mono ?_; rintro e w1 ⟨rfl, rfl⟩; rw [hdin])))
      go_loopw [6] (fun i wr => ∃ k : Nat, k ≤ s.pend.length ∧ i = .int .i64 ((k : Int) - 1) ∧ Hid (NoneAt s.pend nn k) ∧ wr = w.alloc (.cells zs 32)) (fun i _ => (intOf i + 1).toNat)
      case atStart => exact ⟨s.pend.length, Nat.le_refl _, by go_num, NoneAt.start _ _, rfl⟩
      case round =>
        obtain ⟨k, hk, rfl, hno, rfl⟩ := hrel
        cases k with
        | zero =>
          obtain ⟨d0, hd0⟩ : ∃ d0, s.secs[nn]? = some d0 := ⟨_, List.getElem?_eq_getElem hnn⟩
          have f0 := HA0.out.field (i := 0) rfl
          obtain ⟨gS, cS, rfl, hoS, hgS, hrS, htS⟩ := HA0.out.secAt hd0
          obtain ⟨ds, hds⟩ : ∃ ds : Array Value, ds = (bvs d0).toArray := ⟨_, rfl⟩
          have hdl : d0.length = 64 := HA0.out.ok.secs d0 (List.mem_of_getElem? hd0)
          have Hdl := Lib.hid hdl
          have hdz : ds.size = 64 := by rw [hds, List.size_toArray, bvs_length, hdl]
          have Hdz := Lib.hid hdz
          have Hds := Lib.hid hds
          have HrS := Lib.hid hrS
          have hd0' := Lib.hid hd0
          have hnn' : (nn : Int) < (s.secs.length : Int) := by omega
          have hn0 : (0 : Int) ≤ (nn : Int) := by omega
          have hm1 : ((0 : Nat) : Int) - 1 = -1 := rfl
          rw [hm1]
          clear hrS htS hdl hds hdz hd0 hm1
          go_wp2_with (first
            | (refine wpList_load_mid rfl _ _ rfl gS (nn * 64) rfl (bvs d0) _ HrS.out Tryz.underlying32 rfl (by rw [bvs_length, Hdl.out]; kernel_rfl) ?_; rw [← Hds.out])
            | (refine wpList_store_mid rfl _ _ _ rfl w.heap.size 0 ds rfl rfl (by rw [Hdz.out]; exact there_new w _ _ 64 (by rw [Hzz.out]; exact Nat.le_refl _)) (by rw [Hdz.out]; kernel_rfl) (by rw [Hds.out]; exact all_oneCell_toArray (bvs_one _)) ?_))
          have hld : (loadVar 32 ⟨w.heap.size, 0, none⟩).run Tryz.prog ((w.alloc (.cells zs 32)).setCells w.heap.size 0 ds.toList) = .ok (.agg ds.toList.toArray) ((w.alloc (.cells zs 32)).setCells w.heap.size 0 ds.toList) :=
            run_loadVar_mid _ _ _ _ ds.toList _ (World.rangeAt_setCells_same _ _ _ _ (by rw [Array.length_toList, Hdz.out]; exact there_new w _ _ 64 (by rw [Hzz.out]; exact Nat.le_refl _))) Tryz.underlying32 rfl (by rw [Array.length_toList, Hdz.out]; kernel_rfl)
          refine bodyPost_ret (v := .tuple #[.agg ds.toList.toArray, .int .i64 0]) (by simp [results, Tryz.results112, asAddr, hld]) rfl ?_
          exact ReadPost.mk (x := d0) (by unfold DS.read DS.peek; rw [if_pos Hin.out, if_neg (by rw [Hdn.out]; simp), Int.toNat_natCast, lastP_none hno.out, Option.getD_none, List.getD_eq_getElem?_getD, hd0'.out]; rfl) (by rw [Hds.out]) (below_setCells _ _ _ ((Below.refl _ _).alloc (Nat.le_refl _) _) (Nat.le_refl _))
        | succ k =>
          obtain ⟨p, hp⟩ : ∃ p, s.pend[k]? = some p := ⟨_, List.getElem?_eq_getElem hk⟩
          obtain ⟨gP, c, hPe, hoP, hgP, hrP⟩ := HA0.out.pendAt (k := k) (p := p) hp
          obtain ⟨rfl, rfl⟩ : AP = some ⟨gP, 0, none⟩ ∧ cP = c := by injection hPe; exact ⟨by assumption, by assumption⟩
          have hrP' := Lib.hid hrP
          have hk1 : ((k + 1 : Nat) : Int) - 1 = (k : Int) := by omega
          rw [hk1]
          have hk0 : (0 : Int) ≤ (k : Int) := by omega
          have hlt : (k : Int) < (s.pend.length : Int) := by omega
          have hc0 : (w.alloc (.cells zs 32)).cell? ⟨gP, k * 65, none⟩ = some (.int .i64 p.1) := hrP 0 _ rfl
          by_cases hpn : p.1 = nn
          · obtain ⟨ds, hds⟩ : ∃ ds : Array Value, ds = (bvs p.2).toArray := ⟨_, rfl⟩
            have hdl : p.2.length = 64 := (h.ok.pend p (List.mem_of_getElem? hp)).2
            have Hdl := Lib.hid hdl
            have hdz : ds.size = 64 := by rw [hds, List.size_toArray, bvs_length, hdl]
            have Hdz := Lib.hid hdz
            have Hds := Lib.hid hds
            have Hp := Lib.hid hp
            have Hpn := Lib.hid hpn
            have hpn' : ((p.1 : Nat) : Int) = (nn : Int) := by omega
            rw [hpn'] at hc0
            clear hrP hPe hdl hds hdz hp hpn hpn'
            go_wp2_with (first
              | (refine wpList_load_mid rfl _ _ rfl gP (k * 65 + 1) rfl (bvs p.2) _ (fun j v hv => by have := hrP'.out (j + 1) v (by simpa using hv); rw [show k * 65 + 1 + j = k * 65 + (j + 1) from by omega]; exact this) Tryz.underlying32 rfl (by rw [bvs_length, Hdl.out]; kernel_rfl) ?_; rw [← Hds.out])
              | (refine wpList_store_mid rfl _ _ _ rfl w.heap.size 0 ds rfl rfl (by rw [Hdz.out]; exact there_new w _ _ 64 (by rw [Hzz.out]; exact Nat.le_refl _)) (by rw [Hdz.out]; kernel_rfl) (by rw [Hds.out]; exact all_oneCell_toArray (bvs_one _)) ?_))
            have hld : (loadVar 32 ⟨w.heap.size, 0, none⟩).run Tryz.prog ((w.alloc (.cells zs 32)).setCells w.heap.size 0 ds.toList) = .ok (.agg ds.toList.toArray) ((w.alloc (.cells zs 32)).setCells w.heap.size 0 ds.toList) :=
              run_loadVar_mid _ _ _ _ ds.toList _ (World.rangeAt_setCells_same _ _ _ _ (by rw [Array.length_toList, Hdz.out]; exact there_new w _ _ 64 (by rw [Hzz.out]; exact Nat.le_refl _))) Tryz.underlying32 rfl (by rw [Array.length_toList, Hdz.out]; kernel_rfl)
            refine bodyPost_ret (v := .tuple #[.agg ds.toList.toArray, .int .i64 0]) (by simp [results, Tryz.results112, asAddr, hld]) rfl ?_
            exact ReadPost.mk (x := p.2) (by unfold DS.read DS.peek; rw [if_pos Hin.out, if_neg (by rw [Hdn.out]; simp), Int.toNat_natCast, lastP_some hno.out Hp.out Hpn.out]; rfl) (by rw [Hds.out]) (below_setCells _ _ _ ((Below.refl _ _).alloc (Nat.le_refl _) _) (Nat.le_refl _))
          · have hpn' : ((p.1 : Nat) : Int) ≠ (nn : Int) := by omega
            clear hrP hPe
            go_wp2
            go_roundw
            case rel => exact ⟨k, by omega, by go_num, hno.out.step hp hpn, trivial⟩
            case measure => simp [intOf]
  · have hdin : decide (0 ≤ n ∧ n < (s.secs.length : Int)) = false := decide_eq_false hin
    have Hin := Lib.hid hin
    clear hin
    go_enter Tryz.func112, Tryz.ntmps112
    go_wp2_with (first
      | (go_at_call 143; go_must (refine (has_any (hA _) n).mono ?_; rintro e w1 ⟨rfl, rfl⟩; rw [hdin]))
      | (refine buildZ rfl rfl ?_; rw [← Hzs.out])
      | (refine wpList_store_mid rfl _ _ _ rfl w.heap.size 0 zs rfl rfl (by rw [Hzz.out]; exact there_new w _ _ 64 (by rw [Hzz.out]; exact Nat.le_refl _)) (by rw [Hzz.out]; kernel_rfl) (by rw [Hzs.out]; exact all_oneCell_toArray (bvs_one _)) ?_))
    have hld : (loadVar 32 ⟨w.heap.size, 0, none⟩).run Tryz.prog ((w.alloc (.cells zs 32)).setCells w.heap.size 0 zs.toList) = .ok (.agg zs.toList.toArray) ((w.alloc (.cells zs 32)).setCells w.heap.size 0 zs.toList) :=
      run_loadVar_mid _ _ _ _ zs.toList _ (World.rangeAt_setCells_same _ _ _ _ (by rw [Array.length_toList, Hzz.out]; exact there_new w _ _ 64 (by rw [Hzz.out]; exact Nat.le_refl _))) Tryz.underlying32 rfl (by rw [Array.length_toList, Hzz.out]; kernel_rfl)
    refine bodyPost_ret (v := .tuple #[.agg zs.toList.toArray, .int .i64 1]) (by simp [results, Tryz.results112, asAddr, hld]) rfl ?_
    exact ReadPost.mk (by unfold DS.read; rw [if_neg Hin.out]) (by rw [Hzs.out]) (below_setCells _ _ _ ((Below.refl _ _).alloc (Nat.le_refl _) _) (Nat.le_refl _))
end Go.Proofs.YtbcpmnnlhdgbhaaGreatDoor

namespace Go.Proofs.YtbcpmnnlhdgbhaaGreatDoor
open Go.RowKit
theorem eq64 (d : Nat) (x y : List UInt8) (hx : x.length = 64) (hy : y.length = 64) (w : World) :
    (Op.equalIn (d + 2) 32 (.agg (bvs x).toArray) (.agg (bvs y).toArray)).run Tryz.prog w = .ok (x == y) w := by
  have hs : (sizeOf 5).run Tryz.prog w = .ok 1 w := by kernel_rfl
  have h1 := eqRange (xs := x) (ys := y) d w (by omega) 64 0 (by omega)
  rw [Op.equalIn]
  simp only [Sem.run_bind, run_underlying Tryz.underlying32, Result.andThen_ok, hs]
  simp only [Std.Legacy.Range.forIn_eq_forIn_range', Std.Legacy.Range.size, Nat.sub_zero, Nat.add_sub_cancel, Nat.div_one]
  refine (congrArg (fun r => Result.andThen r _) h1).trans ?_
  simp only [Result.andThen_ok, List.drop_zero]
  by_cases he : x = y
  · rw [if_pos he]; simp [he]
  · rw [if_neg he]; simp [he]
end Go.Proofs.YtbcpmnnlhdgbhaaGreatDoor

namespace Go.Proofs.YtbcpmnnlhdgbhaaGreatDoor
open Go.RowKit
variable {w w' w0 : World} {g : Nat} {s : DS} {H : List (Nat × Obj)}
/-- The disk s at g, made by the call that began in w0; beside it the objects of H, none of them the disk's. -/
def DK (w0 w : World) (g : Nat) (s : DS) (H : List (Nat × Obj)) : Prop :=
  ∃ own S P, Dsk w w0.heap.size own g s S P ∧ Below w0.heap.size w0 w ∧ ∀ p ∈ H, w.heap[p.1]? = some p.2 ∧ ¬ own p.1
theorem DK.below0 (h : DK w0 w g s H) : Below w0.heap.size w0 w := h.elim fun _ h => h.elim fun _ h => h.elim fun _ h => h.2.1
theorem DK.held (h : DK w0 w g s H) {p : Nat × Obj} (hp : p ∈ H) : w.heap[p.1]? = some p.2 := h.elim fun _ h => h.elim fun _ h => h.elim fun _ h => (h.2.2 p hp).1
theorem held_lt {w : World} {k : Nat} {o : Obj} (h : w.heap[k]? = some o) : k < w.heap.size := by
  rcases Nat.lt_or_ge k w.heap.size with h' | h'
  · exact h'
  · rw [Array.getElem?_eq_none h'] at h; cases h
theorem DK.below (h : DK w0 w g s H) (hb : Below w.heap.size w w') : DK w0 w' g s H := by
  obtain ⟨own, S, P, hD, h0, hH⟩ := h
  exact ⟨own, S, P, hD.below hb, h0.trans (hb.mono h0.size), fun p hp => ⟨(hb.block _ (held_lt (hH p hp).1)).trans (hH p hp).1, (hH p hp).2⟩⟩
theorem DK.hold (h : DK w0 w g s H) (o : Obj) : DK w0 (w.alloc o) g s ((w.heap.size, o) :: H) := by
  obtain ⟨own, S, P, hD, h0, hH⟩ := h
  have hb : Below w.heap.size w (w.alloc o) := (Below.refl _ _).alloc (Nat.le_refl _) _
  refine ⟨own, S, P, hD.below hb, h0.trans (hb.mono h0.size), fun p hp => ?_⟩
  rcases List.mem_cons.1 hp with rfl | hp
  · exact ⟨heap_alloc_new w o, fun e => by have := (hD.bnd _ e).2; simp at this⟩
  · exact ⟨(hb.block _ (held_lt (hH p hp).1)).trans (hH p hp).1, (hH p hp).2⟩
theorem DK.drop (h : DK w0 w g s H) {H' : List (Nat × Obj)} (hs : ∀ p ∈ H', p ∈ H) : DK w0 w g s H' := by
  obtain ⟨own, S, P, hD, h0, hH⟩ := h
  exact ⟨own, S, P, hD, h0, fun p hp => hH p (hs p hp)⟩
theorem Turns.below0 {base : Nat} {own : Nat → Prop} {S P : Value} (hD : Dsk w base own g s S P) (hT : Turns own w w') (hb : base ≤ w.heap.size) : Below base w w' :=
  ⟨hT.os, hT.tape, hT.output, hT.size, fun k hk => hT.block k (by omega) (fun e => by have := (hD.bnd k e).1; omega)⟩
/-- Behind a call on the disk. -/
theorem DK.after {own : Nat → Prop} {S P : Value} {s' : DS} (hD : Dsk w w0.heap.size own g s S P) (h0 : Below w0.heap.size w0 w) (hH : ∀ p ∈ H, w.heap[p.1]? = some p.2 ∧ ¬ own p.1) (h : After w0.heap.size g own s' w w') : DK w0 w' g s' H := by
  obtain ⟨own', S', P', hD', hT, ho⟩ := h
  refine ⟨own', S', P', hD', h0.trans (Turns.below0 hD hT h0.size), fun p hp => ?_⟩
  have hlt := held_lt (hH p hp).1
  refine ⟨(hT.block _ hlt (hH p hp).2).trans (hH p hp).1, fun e => ?_⟩
  rcases ho _ e with e | e
  · exact (hH p hp).2 e
  · omega
theorem ownsRow_low {base base' : Nat} {e : TypeId} {size : Nat} {v : Value} {n : Nat} {xs : List Value} (h : w.ownsRow base e size v n xs) (hb : base' ≤ base) : w.ownsRow base' e size v n xs := by
  refine ⟨h.1, ?_⟩
  rcases h.2 with h | ⟨g', cap, cur, rfl, h1, h2⟩
  · exact .inl h
  · exact .inr ⟨g', cap, cur, rfl, Nat.le_trans hb h1, h2⟩
end Go.Proofs.YtbcpmnnlhdgbhaaGreatDoor

namespace Go.Proofs.YtbcpmnnlhdgbhaaGreatDoor
open Go.RowKit

def SamePost (ls ms : List (List UInt8)) (w : World) (e : Ending) (w' : World) : Prop := e = .returned (.bool (decide (ls = ms))) ∧ Below w.heap.size w w'
theorem SamePost.no {ls ms : List (List UInt8)} {w w' : World} (h : ¬ ls = ms) (hb : Below w.heap.size w w') : SamePost ls ms w (.returned (.bool false)) w' := ⟨by rw [decide_eq_false h], hb⟩
theorem SamePost.yes {ls ms : List (List UInt8)} {w w' : World} (h : ls = ms) (hb : Below w.heap.size w w') : SamePost ls ms w (.returned (.bool true)) w' := ⟨by rw [decide_eq_true h], hb⟩

end Go.Proofs.YtbcpmnnlhdgbhaaGreatDoor

namespace Go.Proofs.YtbcpmnnlhdgbhaaGreatDoor
open Go.RowKit
/-- The sectors of a frame's bytes; the first one begins with 'kind', the others with 2. -/
def chunks : Nat → UInt8 → List UInt8 → List (List UInt8)
  | 0, _, _ => []
  | n + 1, kind, b => if b = [] then [] else (kind :: (b.take 63 ++ List.replicate (63 - b.length) 0)) :: chunks n 2 (b.drop 63)
def secsN (n : Nat) : Nat := (n + 82) / 63
theorem chunks_len : ∀ (n : Nat) (k : UInt8) (b : List UInt8), b.length ≤ n → (chunks n k b).length = (b.length + 62) / 63
  | 0, _, b, h => by
    have : b.length = 0 := by omega
    rw [chunks, this]; rfl
  | n + 1, k, b, h => by
    unfold chunks
    by_cases h0 : b = []
    · rw [if_pos h0, h0]; rfl
    · have : 0 < b.length := List.length_pos_iff.2 h0
      rw [if_neg h0, List.length_cons, chunks_len n 2 (b.drop 63) (by rw [List.length_drop]; omega), List.length_drop]
      omega
theorem chunks_64 : ∀ (n : Nat) (k : UInt8) (b : List UInt8), ∀ x ∈ chunks n k b, x.length = 64
  | 0, _, _, x, h => by cases h
  | n + 1, k, b, x, h => by
    unfold chunks at h
    by_cases h0 : b = []
    · rw [if_pos h0] at h; cases h
    · rw [if_neg h0] at h
      rcases List.mem_cons.1 h with rfl | h
      · simp; omega
      · exact chunks_64 n 2 _ x h
/-- Sectors and their places, from one on. -/
def placeL : Nat → List (List UInt8) → List (Nat × List UInt8)
  | _, [] => []
  | n, x :: l => (n, x) :: placeL (n + 1) l
theorem placeL_len : ∀ (n : Nat) (l : List (List UInt8)), (placeL n l).length = l.length
  | _, [] => rfl
  | n, x :: l => by rw [placeL, List.length_cons, placeL_len (n + 1) l]; rfl
theorem sync_place : ∀ (l : List (List UInt8)) (n : Nat) (s : List (List UInt8)), n + l.length ≤ s.length → syncAll s (placeL n l) = s.take n ++ l ++ s.drop (n + l.length)
  | [], n, s, h => by simp [placeL, syncAll]
  | x :: l, n, s, h => by
    rw [List.length_cons] at h
    have e : syncAll s (placeL n (x :: l)) = syncAll (s.set n x) (placeL (n + 1) l) := rfl
    rw [e, sync_place l (n + 1) (s.set n x) (by rw [List.length_set]; omega)]
    have h1 : (s.set n x).take (n + 1) = s.take n ++ [x] := by
      rw [List.take_add_one, List.getElem?_set_self (by omega)]
      simp [List.take_set_of_le]
    have h2 : (s.set n x).drop (n + 1 + l.length) = s.drop (n + (x :: l).length) := by
      rw [List.drop_set_of_lt (by omega), List.length_cons, show n + 1 + l.length = n + (l.length + 1) from by omega]
    rw [h1, h2]
    simp
/-- A frame's bytes. -/
def zero16 : List UInt8 := List.replicate 16 0
def tagF (K : List Int) (number : Nat) (rec : List UInt8) : List UInt8 := (sumF K (zero16 ++ be8 number ++ rec)).take 16
theorem tagF_len (K : List Int) (number : Nat) (rec : List UInt8) : (tagF K number rec).length = 16 := by
  unfold tagF; rw [List.length_take, sumF_len]; rfl
def frameB (K : List Int) (number : Nat) (rec : List UInt8) : List UInt8 := be4 rec.length ++ tagF K number rec ++ rec
theorem frameB_len (K : List Int) (number : Nat) (rec : List UInt8) : (frameB K number rec).length = rec.length + 20 := by
  unfold frameB
  rw [List.length_append, List.length_append, tagF_len, show (be4 rec.length).length = 4 from rfl]
  omega
def frameS (K : List Int) (number : Nat) (rec : List UInt8) : List (List UInt8) := chunks (rec.length + 20) 1 (frameB K number rec)
theorem frameS_len (K : List Int) (number : Nat) (rec : List UInt8) : (frameS K number rec).length = secsN rec.length := by
  unfold frameS secsN
  rw [chunks_len _ _ _ (by rw [frameB_len]; omega), frameB_len]
theorem frameS_64 (K : List Int) (number : Nat) (rec : List UInt8) : ∀ x ∈ frameS K number rec, x.length = 64 := chunks_64 _ _ _
/-- All frames, from a number on. -/
def framesS (K : List Int) : Nat → List (List UInt8) → List (List UInt8)
  | _, [] => []
  | i, r :: l => frameS K i r ++ framesS K (i + 1) l
theorem framesS_snoc (K : List Int) : ∀ (l : List (List UInt8)) (i : Nat) (r : List UInt8), framesS K i (l ++ [r]) = framesS K i l ++ frameS K (i + l.length) r
  | [], i, r => by simp [framesS]
  | x :: l, i, r => by
    rw [List.cons_append, framesS, framesS_snoc K l (i + 1) r, framesS, List.append_assoc, List.length_cons, show i + 1 + l.length = i + (l.length + 1) from by omega]
end Go.Proofs.YtbcpmnnlhdgbhaaGreatDoor

namespace Go.Proofs.YtbcpmnnlhdgbhaaGreatDoor
open Go.RowKit
/-- The 21 cells of a Log. -/
def logC (gd : Nat) (p : Int) (rv : Value) : Array Value := ((Value.pointer (some ⟨gd, 0, none⟩) :: Value.int .u64 0 :: bvs zero16) ++ [Value.int .i64 p, rv, Value.bool false]).toArray
theorem logC_rec (gd : Nat) (p : Int) (rv rv' : Value) : (logC gd p rv).setIfInBounds 19 rv' = logC gd p rv' := rfl
structure LGx (w : World) (base : Nat) (own od : Nat → Prop) (gd gl : Nat) (s : DS) (S P : Value) (p : Int) (rv : Value) (recs : List (List UInt8)) (vs : List Value) : Prop where
  dsk : Dsk w base od gd s S P
  sub : ∀ k, od k → own k
  blk : w.heap[gl]? = some (.cells (logC gd p rv) 190 (0, 0))
  ogl : own gl
  dgl : ¬ od gl
  lst : OwnLL w base rv recs vs
  ror : ∀ k, rv.ownBlock = some k → own k ∧ ¬ od k ∧ k ≠ gl
  mor : ∀ u ∈ vs, ∀ k, u.ownBlock = some k → own k ∧ ¬ od k ∧ k ≠ gl
  bnd : ∀ k, own k → base ≤ k ∧ k < w.heap.size
def LG (w : World) (base : Nat) (own : Nat → Prop) (gd gl : Nat) (s : DS) (p : Int) (recs : List (List UInt8)) : Prop := ∃ od S P rv vs, LGx w base own od gd gl s S P p rv recs vs
/-- Behind a call on the log. -/
def LAfter (base : Nat) (own : Nat → Prop) (gd gl : Nat) (s : DS) (p : Int) (recs : List (List UInt8)) (w w' : World) : Prop := ∃ own', LG w' base own' gd gl s p recs ∧ Turns own w w' ∧ ∀ k, own' k → own k ∨ w.heap.size ≤ k
theorem row_at {w w' : World} {base : Nat} {e : TypeId} {size : Nat} {v : Value} {n : Nat} {xs : List Value} (h : w.ownsRow base e size v n xs) (hk : ∀ k, v.ownBlock = some k → w'.heap[k]? = w.heap[k]?) : w'.ownsRow base e size v n xs := by
  obtain ⟨h1, h2 | ⟨g, cap, cur, rfl, h3, h4, h5⟩⟩ := h
  · exact ⟨h1, .inl h2⟩
  · exact ⟨h1, .inr ⟨g, cap, cur, rfl, h3, (hk g rfl).trans h4, h5⟩⟩
theorem lst_at {w w' : World} {base : Nat} {v : Value} {ls : List (List UInt8)} {vs : List Value} (h : OwnLL w base v ls vs) (hk : ∀ k, v.ownBlock = some k → w'.heap[k]? = w.heap[k]?) (hm : ∀ u ∈ vs, ∀ k, u.ownBlock = some k → w'.heap[k]? = w.heap[k]?) : OwnLL w' base v ls vs :=
  ⟨row_at h.row hk, fun i hi => by
    obtain ⟨u, hu, ho, hne⟩ := h.each i hi
    exact ⟨u, hu, row_at ho (hm u (List.mem_of_getElem? hu)), hne⟩, h.apart⟩
section
variable {w w' : World} {base gd gl : Nat} {own od : Nat → Prop} {s s' : DS} {S P rv : Value} {p : Int} {recs : List (List UInt8)} {vs : List Value}
theorem LGx.row_lt (h : LGx w base own od gd gl s S P p rv recs vs) : ∀ k, rv.ownBlock = some k → k < w.heap.size := fun k hk => (h.bnd k (h.ror k hk).1).2
theorem LGx.below (h : LGx w base own od gd gl s S P p rv recs vs) (hb : Below w.heap.size w w') : LGx w' base own od gd gl s S P p rv recs vs :=
  ⟨h.dsk.below hb, h.sub, heap_below h.blk hb, h.ogl, h.dgl, lst_at h.lst (fun k hk => hb.block k (h.row_lt k hk)) (fun u hu k hk => hb.block k (h.bnd k (h.mor u hu k hk).1).2), h.ror, h.mor,
    fun k hk => ⟨(h.bnd k hk).1, Nat.lt_of_lt_of_le (h.bnd k hk).2 hb.size⟩⟩
theorem LG.below (h : LG w base own gd gl s p recs) (hb : Below w.heap.size w w') : LG w' base own gd gl s p recs := by
  obtain ⟨od, S, P, rv, vs, h⟩ := h
  exact ⟨od, S, P, rv, vs, h.below hb⟩
theorem LAfter.of_below (h : LG w base own gd gl s p recs) (hb : Below w.heap.size w w') : LAfter base own gd gl s p recs w w' := ⟨own, h.below hb, Turns.of_below hb, fun _ h => .inl h⟩
theorem Turns.more {own own' : Nat → Prop} {w w' : World} (h : Turns own w w') (hs : ∀ k, own k → own' k) : Turns own' w w' := ⟨h.os, h.tape, h.output, h.size, fun k hk hn => h.block k hk fun e => hn (hs k e)⟩
theorem Turns.then {own own' : Nat → Prop} {a b c : World} (h : Turns own a b) (h' : Turns own' b c) (hs : ∀ k, own' k → own k ∨ a.heap.size ≤ k) : Turns own a c :=
  ⟨h'.os.trans h.os, h'.tape.trans h.tape, h'.output.trans h.output, Nat.le_trans h.size h'.size, fun k hk hn => (h'.block k (Nat.lt_of_lt_of_le hk h.size) (fun e => by
    rcases hs k e with e | e
    · exact hn e
    · omega)).trans (h.block k hk hn)⟩
theorem LAfter.trans {a b c : World} {s1 s2 : DS} {p1 p2 : Int} {r1 r2 : List (List UInt8)} {own1 : Nat → Prop} (_h : LG b base own1 gd gl s1 p1 r1) (ht : Turns own a b) (hs : ∀ k, own1 k → own k ∨ a.heap.size ≤ k) (h2 : LAfter base own1 gd gl s2 p2 r2 b c) : LAfter base own gd gl s2 p2 r2 a c := by
  obtain ⟨own2, hL, hT, hS⟩ := h2
  refine ⟨own2, hL, ht.then hT hs, fun k hk => ?_⟩
  rcases hS k hk with h | h
  · exact hs k h
  · exact .inr (Nat.le_trans ht.size h)
/-- A call on the disk. -/
theorem LGx.disk (h : LGx w base own od gd gl s S P p rv recs vs) (hA : After base gd od s' w w') : LAfter base own gd gl s' p recs w w' := by
  obtain ⟨od', S', P', hD, hT, hS⟩ := hA
  have keep : ∀ k, own k → ¬ od k → w'.heap[k]? = w.heap[k]? := fun k hk hn => hT.block k (h.bnd k hk).2 hn
  have nod : ∀ k, k < w.heap.size → ¬ od k → ¬ od' k := fun k hk hn e => by
    rcases hS k e with e | e
    · exact hn e
    · omega
  refine ⟨fun k => own k ∨ od' k, ⟨od', S', P', rv, vs, hD, fun k hk => .inr hk, (keep gl h.ogl h.dgl).trans h.blk, .inl h.ogl, nod gl (h.bnd gl h.ogl).2 h.dgl, ?_, ?_, ?_, ?_⟩, hT.more h.sub, ?_⟩
  · exact lst_at h.lst (fun k hk => keep k (h.ror k hk).1 (h.ror k hk).2.1) (fun u hu k hk => keep k (h.mor u hu k hk).1 (h.mor u hu k hk).2.1)
  · exact fun k hk => ⟨.inl (h.ror k hk).1, nod k (h.bnd k (h.ror k hk).1).2 (h.ror k hk).2.1, (h.ror k hk).2.2⟩
  · exact fun u hu k hk => ⟨.inl (h.mor u hu k hk).1, nod k (h.bnd k (h.mor u hu k hk).1).2 (h.mor u hu k hk).2.1, (h.mor u hu k hk).2.2⟩
  · intro k hk
    rcases hk with hk | hk
    · exact ⟨(h.bnd k hk).1, Nat.lt_of_lt_of_le (h.bnd k hk).2 hT.size⟩
    · exact hD.bnd k hk
  · intro k hk
    rcases hk with hk | hk
    · exact .inl hk
    · rcases hS k hk with e | e
      · exact .inl (h.sub k e)
      · exact .inr e
/-- A cell of the Log is written. -/
theorem LGx.set (h : LGx w base own od gd gl s S P p rv recs vs) (i : Nat) (v : Value) (p' : Int) (hrow : (logC gd p rv).setIfInBounds i v = logC gd p' rv) : LGx (w.setCell ⟨gl, i, none⟩ v) base own od gd gl s S P p' rv recs vs ∧ Turns own w (w.setCell ⟨gl, i, none⟩ v) := by
  have hf := Frm.setCell w gl i v
  have hsz : (w.setCell ⟨gl, i, none⟩ v).heap.size = w.heap.size := by simp [World.setCell]
  have keep : ∀ k, own k → k ≠ gl → (w.setCell ⟨gl, i, none⟩ v).heap[k]? = w.heap[k]? := fun k hk hn => hf.block k (h.bnd k hk).2 (by simpa using hn)
  have hgd : gd ≠ gl := fun e => h.dgl (e ▸ h.dsk.ownG)
  have hD : Dsk (w.setCell ⟨gl, i, none⟩ v) base od gd s S P :=
    ⟨h.dsk.ok, (keep gd (h.sub _ h.dsk.ownG) hgd).trans h.dsk.blk, row_at h.dsk.rowS (fun k hk => keep k (h.sub _ (h.dsk.ownS k hk)) (fun e => h.dgl (e ▸ h.dsk.ownS k hk))), row_at h.dsk.rowP (fun k hk => keep k (h.sub _ (h.dsk.ownP k hk)) (fun e => h.dgl (e ▸ h.dsk.ownP k hk))),
      h.dsk.ownG, h.dsk.ownS, h.dsk.ownP, fun k hk => by rw [hsz]; exact h.dsk.bnd k hk, h.dsk.gS, h.dsk.gP, h.dsk.sP⟩
  refine ⟨⟨hD, h.sub, ?_, h.ogl, h.dgl, ?_, h.ror, h.mor, fun k hk => by rw [hsz]; exact h.bnd k hk⟩, ⟨hf.os, hf.tape, hf.output, hf.size, fun k hk hn => hf.block k hk (by intro e; simp at e; exact hn (e ▸ h.ogl))⟩⟩
  · rw [← hrow]
    exact heap_setCell_same w gl i _ _ _ h.blk
  · exact lst_at h.lst (fun k hk => keep k (h.ror k hk).1 (h.ror k hk).2.2) (fun u hu k hk => keep k (h.mor u hu k hk).1 (h.mor u hu k hk).2.2)
theorem LGx.cell (h : LGx w base own od gd gl s S P p rv recs vs) {i : Nat} {v : Value} (hv : (logC gd p rv)[i]? = some v) : w.cell? ⟨gl, i, none⟩ = some v := by
  rw [cell_of_row _ gl i _ _ _ h.blk]; exact hv
theorem LGx.c0 (h : LGx w base own od gd gl s S P p rv recs vs) : w.cell? ⟨gl, 0, none⟩ = some (.pointer (some ⟨gd, 0, none⟩)) := h.cell rfl
theorem LGx.c1 (h : LGx w base own od gd gl s S P p rv recs vs) : w.cell? ⟨gl, 1, none⟩ = some (.int .u64 0) := h.cell rfl
theorem LGx.c18 (h : LGx w base own od gd gl s S P p rv recs vs) : w.cell? ⟨gl, 18, none⟩ = some (.int .i64 p) := h.cell rfl
theorem LGx.c19 (h : LGx w base own od gd gl s S P p rv recs vs) : w.cell? ⟨gl, 19, none⟩ = some rv := h.cell rfl
theorem LGx.c20 (h : LGx w base own od gd gl s S P p rv recs vs) : w.cell? ⟨gl, 20, none⟩ = some (.bool false) := h.cell rfl
theorem LGx.salt (h : LGx w base own od gd gl s S P p rv recs vs) : w.rangeAt gl 2 (bvs zero16) := fun j v hv => by
  rw [cell_of_row _ gl (2 + j) _ _ _ h.blk]
  have hj : j < 16 := (List.getElem?_eq_some_iff.1 hv).1
  unfold logC
  rw [List.getElem?_toArray, List.getElem?_append_left (by simp [bvs_length, zero16]; omega), show 2 + j = j + 1 + 1 from by omega, List.getElem?_cons_succ, List.getElem?_cons_succ]
  exact hv
end
end Go.Proofs.YtbcpmnnlhdgbhaaGreatDoor
