/- The walk of Read. No conditions. -/
import Derived.Test.YtdggibigfocadaaD8
namespace Go.Proofs.Ytdggibigfocadaa
open Go.RowKit
variable {w w' : World} {base g : Nat} {own : Nat → Prop} {s : DS} {S P : Value}
def zero64 : List UInt8 := List.replicate 64 0
theorem buildZ {ops : Array Oper} {rest : List Oper} {o : Oper} {a : Act} {w : World} {Q : Exit → Act → World → Prop} (hg : o.guard = none) (ho : o.op = .build 28 #[])
    (h : wpList Try.prog ops Q rest (a.put o.dst (.agg (bvs zero64).toArray)) w) : wpList Try.prog ops Q (o :: rest) a w := by
  have hb : Try.prog.built 28 ((#[] : Array (Nat × Operand)).map fun (i, x) => (i, a.eval x)).toList = some (bvs zero64).toArray := by kernel_rfl
  refine wpList_plain hg fun K hK => wp_build _ _ ho (by rw [hb]; rfl) ?_
  rw [hb]
  exact hK _ _ h
def lastP (l : List (Nat × List UInt8)) (n : Nat) : Option (List UInt8) := (l.reverse.find? fun p => p.1 == n).map (·.2)
def DS.peek (s : DS) (n : Nat) : List UInt8 := (lastP s.pend n).getD (s.secs.getD n [])
def DS.read (s : DS) (n : Int) : List UInt8 × Int := if 0 ≤ n ∧ n < (s.secs.length : Int) then if s.down = true then (zero64, 9) else (s.peek n.toNat, 0) else (zero64, 1)
/-- None of those from k on is at n. -/
def NoneAt (l : List (Nat × List UInt8)) (n k : Nat) : Prop := ∀ j p, l[j]? = some p → k ≤ j → p.1 ≠ n
theorem NoneAt.start (l : List (Nat × List UInt8)) (n : Nat) : NoneAt l n l.length := fun j p hp hj => by rw [List.getElem?_eq_none hj] at hp; cases hp
theorem NoneAt.step {l : List (Nat × List UInt8)} {n k : Nat} {p : Nat × List UInt8} (h : NoneAt l n (k + 1)) (hp : l[k]? = some p) (hn : p.1 ≠ n) : NoneAt l n k := fun j q hq hj => by
  rcases Nat.eq_or_lt_of_le hj with rfl | hj
  · rw [hp] at hq; cases hq; exact hn
  · exact h j q hq hj
theorem lastP_none {l : List (Nat × List UInt8)} {n : Nat} (h : NoneAt l n 0) : lastP l n = none := by
  unfold lastP
  rw [List.find?_eq_none.2]
  · rfl
  · intro p hp
    obtain ⟨j, hj⟩ := List.mem_iff_getElem?.1 (List.mem_reverse.1 hp)
    have := h j p hj (Nat.zero_le _)
    simpa using this
theorem lastP_append (l m : List (Nat × List UInt8)) (n : Nat) : lastP (l ++ m) n = (lastP m n).or (lastP l n) := by
  unfold lastP
  rw [List.reverse_append, List.find?_append]
  cases List.find? (fun p => p.1 == n) m.reverse <;> simp
theorem lastP_some {l : List (Nat × List UInt8)} {n k : Nat} {p : Nat × List UInt8} (h : NoneAt l n (k + 1)) (hp : l[k]? = some p) (hn : p.1 = n) : lastP l n = some p.2 := by
  have h1 : l = l.take (k + 1) ++ l.drop (k + 1) := (List.take_append_drop _ _).symm
  have h2 : l.take (k + 1) = l.take k ++ [p] := by rw [List.take_add_one, hp]; rfl
  rw [h1, lastP_append, lastP_none, h2, lastP_append]
  · simp [lastP, hn]
  · intro j q hq _
    rw [List.getElem?_drop] at hq
    exact h _ q hq (by omega)
def ReadPost (x : List UInt8 × Int) (w : World) (e : Ending) (w' : World) : Prop := e = .returned (.tuple #[.agg (bvs x.1).toArray, .int .i64 x.2]) ∧ Below w.heap.size w w'
theorem ReadPost.mk {n : Int} {x : List UInt8} {c : Int} (he : s.read n = (x, c)) {v : Value} (hv : v = .agg (bvs x).toArray) (h : Below w.heap.size w w') : ReadPost (s.read n) w (.returned (.tuple #[v, .int .i64 c])) w' := ⟨by rw [he, hv], h⟩
set_option maxRecDepth 100000 in
set_option maxHeartbeats 4000000 in
theorem Read_any (h : Dsk w base own g s S P) (n : Int) : Calls Try.prog 14 #[.pointer (some ⟨g, 0, none⟩), .int .i64 n] w (ReadPost (s.read n) w) := by
  obtain ⟨zs, hzs⟩ : ∃ zs : Array Value, zs = (bvs zero64).toArray := ⟨_, rfl⟩
  have hz28 : ∀ w, (zeroValue 28).run Try.prog w = .ok (.agg zs) w := fun w => by rw [hzs]; kernel_rfl
  have Hzs := Lib.hid hzs
  have hzz : zs.size = 64 := by rw [hzs]; rfl
  have Hzz := Lib.hid hzz
  clear hzs hzz
  have hA := fun cs => h.below ((Below.refl _ _).alloc (Nat.le_refl w.heap.size) (.cells cs 28))
  by_cases hin : 0 ≤ n ∧ n < (s.secs.length : Int)
  · have hdin : decide (0 ≤ n ∧ n < (s.secs.length : Int)) = true := decide_eq_true hin
    cases hdn : s.down with
    | true =>
      have Hdn := Lib.hid hdn
      clear hdn
      have f3 := (hA zs).field (i := 3) rfl
      rw [Hdn.out] at f3
      go_enter Try.func14, Try.ntmps14
      go_wp2_with (first
        | (go_at_call 29; go_must (refine (has_any (hA _) n).mono ?_; rintro e w1 ⟨rfl, rfl⟩; rw [hdin]))
        | (refine buildZ rfl rfl ?_; rw [← Hzs.out])
        | (refine wpList_store_mid rfl _ _ _ rfl w.heap.size 0 zs rfl rfl (by rw [Hzz.out]; exact there_new w _ _ 64 (by rw [Hzz.out]; exact Nat.le_refl _)) (by rw [Hzz.out]; kernel_rfl) (by rw [Hzs.out]; exact all_oneCell_toArray (bvs_one _)) ?_))
      have hld : (loadVar 28 ⟨w.heap.size, 0, none⟩).run Try.prog ((w.alloc (.cells zs 28)).setCells w.heap.size 0 zs.toList) = .ok (.agg zs.toList.toArray) ((w.alloc (.cells zs 28)).setCells w.heap.size 0 zs.toList) :=
        run_loadVar_mid _ _ _ _ zs.toList _ (World.rangeAt_setCells_same _ _ _ _ (by rw [Array.length_toList, Hzz.out]; exact there_new w _ _ 64 (by rw [Hzz.out]; exact Nat.le_refl _))) Try.underlying28 rfl (by rw [Array.length_toList, Hzz.out]; kernel_rfl)
      refine bodyPost_ret (v := .tuple #[.agg zs.toList.toArray, .int .i64 9]) (by simp [results, Try.results14, asAddr, hld]) rfl ?_
      exact ReadPost.mk (by unfold DS.read; rw [if_pos hin, if_pos Hdn.out]) (by rw [Hzs.out]) (below_setCells _ _ _ ((Below.refl _ _).alloc (Nat.le_refl _) _) (Nat.le_refl _))
    | false =>
      have Hdn := Lib.hid hdn
      clear hdn
      have hA0 := hA zs
      have f3 := hA0.field (i := 3) rfl
      rw [Hdn.out] at f3
      have f1 := hA0.field (i := 1) rfl
      obtain ⟨AP, cP, rfl⟩ := h.formP
      have hmx := h.pendMax
      have hmx2 : (0 : Int) ≤ (s.pend.length : Int) := by omega
      obtain ⟨nn, rfl⟩ : ∃ nn : Nat, n = (nn : Int) := ⟨n.toNat, by omega⟩
      have hnn : nn < s.secs.length := by omega
      have HA0 := Lib.hid hA0
      have Hin := Lib.hid hin
      clear hin hA0
      go_enter Try.func14, Try.ntmps14
      go_wp2_with (first
        | (go_at_call 29; go_must (refine (has_any (hA _) _).mono ?_; rintro e w1 ⟨rfl, rfl⟩; rw [hdin])))
      go_loopw [6] (fun i wr => ∃ k : Nat, k ≤ s.pend.length ∧ i = .int .i64 ((k : Int) - 1) ∧ Hid (NoneAt s.pend nn k) ∧ wr = w.alloc (.cells zs 28)) (fun i _ => (intOf i + 1).toNat)
      case atStart => exact ⟨s.pend.length, Nat.le_refl _, by go_num, NoneAt.start _ _, rfl⟩
      case round =>
        obtain ⟨k, hk, rfl, hno, rfl⟩ := hrel
        cases k with
        | zero =>
          obtain ⟨d0, hd0⟩ : ∃ d0, s.secs[nn]? = some d0 := ⟨_, List.getElem?_eq_getElem hnn⟩
          have f0 := HA0.out.field (i := 0) rfl
          obtain ⟨gS, cS, rfl, hoS, hgS, hrS, htS⟩ := HA0.out.secAt hd0
          obtain ⟨ds, hds⟩ : ∃ ds : Array Value, ds = (bvs d0).toArray := ⟨_, rfl⟩
          have hdl : d0.length = 64 := HA0.out.ok.secs d0 (List.mem_of_getElem? hd0)
          have Hdl := Lib.hid hdl
          have hdz : ds.size = 64 := by rw [hds, List.size_toArray, bvs_length, hdl]
          have Hdz := Lib.hid hdz
          have Hds := Lib.hid hds
          have HrS := Lib.hid hrS
          have hd0' := Lib.hid hd0
          have hnn' : (nn : Int) < (s.secs.length : Int) := by omega
          have hn0 : (0 : Int) ≤ (nn : Int) := by omega
          have hm1 : ((0 : Nat) : Int) - 1 = -1 := rfl
          rw [hm1]
          clear hrS htS hdl hds hdz hd0 hm1
          go_wp2_with (first
            | (refine wpList_load_mid rfl _ _ rfl gS (nn * 64) rfl (bvs d0) _ HrS.out Try.underlying28 rfl (by rw [bvs_length, Hdl.out]; kernel_rfl) ?_; rw [← Hds.out])
            | (refine wpList_store_mid rfl _ _ _ rfl w.heap.size 0 ds rfl rfl (by rw [Hdz.out]; exact there_new w _ _ 64 (by rw [Hzz.out]; exact Nat.le_refl _)) (by rw [Hdz.out]; kernel_rfl) (by rw [Hds.out]; exact all_oneCell_toArray (bvs_one _)) ?_))
          have hld : (loadVar 28 ⟨w.heap.size, 0, none⟩).run Try.prog ((w.alloc (.cells zs 28)).setCells w.heap.size 0 ds.toList) = .ok (.agg ds.toList.toArray) ((w.alloc (.cells zs 28)).setCells w.heap.size 0 ds.toList) :=
            run_loadVar_mid _ _ _ _ ds.toList _ (World.rangeAt_setCells_same _ _ _ _ (by rw [Array.length_toList, Hdz.out]; exact there_new w _ _ 64 (by rw [Hzz.out]; exact Nat.le_refl _))) Try.underlying28 rfl (by rw [Array.length_toList, Hdz.out]; kernel_rfl)
          refine bodyPost_ret (v := .tuple #[.agg ds.toList.toArray, .int .i64 0]) (by simp [results, Try.results14, asAddr, hld]) rfl ?_
          exact ReadPost.mk (x := d0) (by unfold DS.read DS.peek; rw [if_pos Hin.out, if_neg (by rw [Hdn.out]; simp), Int.toNat_natCast, lastP_none hno.out, Option.getD_none, List.getD_eq_getElem?_getD, hd0'.out]; rfl) (by rw [Hds.out]) (below_setCells _ _ _ ((Below.refl _ _).alloc (Nat.le_refl _) _) (Nat.le_refl _))
        | succ k =>
          obtain ⟨p, hp⟩ : ∃ p, s.pend[k]? = some p := ⟨_, List.getElem?_eq_getElem hk⟩
          obtain ⟨gP, c, hPe, hoP, hgP, hrP⟩ := HA0.out.pendAt (k := k) (p := p) hp
          obtain ⟨rfl, rfl⟩ : AP = some ⟨gP, 0, none⟩ ∧ cP = c := by injection hPe; exact ⟨by assumption, by assumption⟩
          have hrP' := Lib.hid hrP
          have hk1 : ((k + 1 : Nat) : Int) - 1 = (k : Int) := by omega
          rw [hk1]
          have hk0 : (0 : Int) ≤ (k : Int) := by omega
          have hlt : (k : Int) < (s.pend.length : Int) := by omega
          have hc0 : (w.alloc (.cells zs 28)).cell? ⟨gP, k * 65, none⟩ = some (.int .i64 p.1) := hrP 0 _ rfl
          by_cases hpn : p.1 = nn
          · obtain ⟨ds, hds⟩ : ∃ ds : Array Value, ds = (bvs p.2).toArray := ⟨_, rfl⟩
            have hdl : p.2.length = 64 := (h.ok.pend p (List.mem_of_getElem? hp)).2
            have Hdl := Lib.hid hdl
            have hdz : ds.size = 64 := by rw [hds, List.size_toArray, bvs_length, hdl]
            have Hdz := Lib.hid hdz
            have Hds := Lib.hid hds
            have Hp := Lib.hid hp
            have Hpn := Lib.hid hpn
            have hpn' : ((p.1 : Nat) : Int) = (nn : Int) := by omega
            rw [hpn'] at hc0
            clear hrP hPe hdl hds hdz hp hpn hpn'
            go_wp2_with (first
              | (refine wpList_load_mid rfl _ _ rfl gP (k * 65 + 1) rfl (bvs p.2) _ (fun j v hv => by have := hrP'.out (j + 1) v (by simpa using hv); rw [show k * 65 + 1 + j = k * 65 + (j + 1) from by omega]; exact this) Try.underlying28 rfl (by rw [bvs_length, Hdl.out]; kernel_rfl) ?_; rw [← Hds.out])
              | (refine wpList_store_mid rfl _ _ _ rfl w.heap.size 0 ds rfl rfl (by rw [Hdz.out]; exact there_new w _ _ 64 (by rw [Hzz.out]; exact Nat.le_refl _)) (by rw [Hdz.out]; kernel_rfl) (by rw [Hds.out]; exact all_oneCell_toArray (bvs_one _)) ?_))
            have hld : (loadVar 28 ⟨w.heap.size, 0, none⟩).run Try.prog ((w.alloc (.cells zs 28)).setCells w.heap.size 0 ds.toList) = .ok (.agg ds.toList.toArray) ((w.alloc (.cells zs 28)).setCells w.heap.size 0 ds.toList) :=
              run_loadVar_mid _ _ _ _ ds.toList _ (World.rangeAt_setCells_same _ _ _ _ (by rw [Array.length_toList, Hdz.out]; exact there_new w _ _ 64 (by rw [Hzz.out]; exact Nat.le_refl _))) Try.underlying28 rfl (by rw [Array.length_toList, Hdz.out]; kernel_rfl)
            refine bodyPost_ret (v := .tuple #[.agg ds.toList.toArray, .int .i64 0]) (by simp [results, Try.results14, asAddr, hld]) rfl ?_
            exact ReadPost.mk (x := p.2) (by unfold DS.read DS.peek; rw [if_pos Hin.out, if_neg (by rw [Hdn.out]; simp), Int.toNat_natCast, lastP_some hno.out Hp.out Hpn.out]; rfl) (by rw [Hds.out]) (below_setCells _ _ _ ((Below.refl _ _).alloc (Nat.le_refl _) _) (Nat.le_refl _))
          · have hpn' : ((p.1 : Nat) : Int) ≠ (nn : Int) := by omega
            clear hrP hPe
            go_wp2
            go_roundw
            case rel => exact ⟨k, by omega, by go_num, hno.out.step hp hpn, trivial⟩
            case measure => simp [intOf]
  · have hdin : decide (0 ≤ n ∧ n < (s.secs.length : Int)) = false := decide_eq_false hin
    have Hin := Lib.hid hin
    clear hin
    go_enter Try.func14, Try.ntmps14
    go_wp2_with (first
      | (go_at_call 29; go_must (refine (has_any (hA _) n).mono ?_; rintro e w1 ⟨rfl, rfl⟩; rw [hdin]))
      | (refine buildZ rfl rfl ?_; rw [← Hzs.out])
      | (refine wpList_store_mid rfl _ _ _ rfl w.heap.size 0 zs rfl rfl (by rw [Hzz.out]; exact there_new w _ _ 64 (by rw [Hzz.out]; exact Nat.le_refl _)) (by rw [Hzz.out]; kernel_rfl) (by rw [Hzs.out]; exact all_oneCell_toArray (bvs_one _)) ?_))
    have hld : (loadVar 28 ⟨w.heap.size, 0, none⟩).run Try.prog ((w.alloc (.cells zs 28)).setCells w.heap.size 0 zs.toList) = .ok (.agg zs.toList.toArray) ((w.alloc (.cells zs 28)).setCells w.heap.size 0 zs.toList) :=
      run_loadVar_mid _ _ _ _ zs.toList _ (World.rangeAt_setCells_same _ _ _ _ (by rw [Array.length_toList, Hzz.out]; exact there_new w _ _ 64 (by rw [Hzz.out]; exact Nat.le_refl _))) Try.underlying28 rfl (by rw [Array.length_toList, Hzz.out]; kernel_rfl)
    refine bodyPost_ret (v := .tuple #[.agg zs.toList.toArray, .int .i64 1]) (by simp [results, Try.results14, asAddr, hld]) rfl ?_
    exact ReadPost.mk (by unfold DS.read; rw [if_neg Hin.out]) (by rw [Hzs.out]) (below_setCells _ _ _ ((Below.refl _ _).alloc (Nat.le_refl _) _) (Nat.le_refl _))
end Go.Proofs.Ytdggibigfocadaa
