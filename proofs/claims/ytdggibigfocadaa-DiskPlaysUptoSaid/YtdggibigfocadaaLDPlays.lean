/- The law DiskPlays. No conditions. -/
import Derived.Test.YtdggibigfocadaaE7
import Derived.Test.YtdggibigfocadaaReg6
import Derived.Test.YtdggibigfocadaaArgOps
import Derived.Test.YtdggibigfocadaaArgInt
namespace Go.Proofs.Ytdggibigfocadaa
open Go.RowKit
set_option maxRecDepth 100000 in
set_option maxHeartbeats 600000 in
theorem DPlays_bad (n : Int) (hbad : badN n) (v : Value) (w : World) :
    Calls Try.prog 6 #[.int .i64 n, v] w fun e w' => e = .returned (.bool true) ∧ Below w.heap.size w w' := by
  have Hbad := Lib.hid hbad
  clear hbad
  go_enter Try.func6, Try.ntmps6
  go_wp2_with (first
    | (go_at_call 8; go_must (refine (awake_any _).mono ?_; rintro e w0 ⟨rfl, hbw⟩; have Hbw := Lib.hid hbw; clear hbw))
    | (go_at_call 9; go_must (refine (New_bad n Hbad.out _).mono ?_; rintro e w1 ⟨rfl, rfl⟩))
    | (go_at_call 19; go_must (refine (RNew_bad n Hbad.out _).mono ?_; rintro e w1 ⟨rfl, rfl⟩)))
  go_ret
  exact ⟨rfl, Hbw.out⟩
set_option maxRecDepth 100000 in
set_option maxHeartbeats 4000000 in
theorem DPlays_good (n : Nat) (h1 : 1 ≤ n) (h2 : n ≤ 65536) (qs : List OpQ) (w : World) {A : Option Addr} {c : Nat} (hmax : qs.length ≤ 1048576)
    (has : ∀ i q, qs[i]? = some q → OpAt w w.heap.size A i q ∧ q.2.1 ≤ 9223372036854775807) :
    Calls Try.prog 6 #[.int .i64 (n : Int), .slice A qs.length c] w fun e w' => e = .returned (.bool true) ∧ Below w.heap.size w w' := by
  have Hmx : ∀ k, k < qs.length → (k : Int) + 1 ≤ 9223372036854775807 := fun k hk => by omega
  have Has := Lib.hid has
  have Hb := Lib.hid (And.intro h1 h2)
  have Hmax := Lib.hid hmax
  obtain ⟨zs, hzs⟩ : ∃ zs : Array Value, zs = (bvs zero64).toArray := ⟨_, rfl⟩
  have hz28 : ∀ w, (zeroValue 28).run Try.prog w = .ok (.agg zs) w := fun w => by rw [hzs]; kernel_rfl
  have Hzs := Lib.hid hzs
  have hzz : zs.size = 64 := by rw [hzs]; rfl
  have Hzz := Lib.hid hzz
  have hqz : ∀ w, (Op.equalIn 10000 28 (.agg zs) (.agg zs)).run Try.prog w = .ok true w := fun w => by rw [hzs, eq64 9998 _ _ rfl rfl w, beq_self_eq_true]
  have hqg : Try.prog.eqGuardType Try.prog.depth 28 = false := by kernel_rfl
  clear hmax has h1 h2 hzs hzz
  go_enter Try.func6, Try.ntmps6
  go_wp2_with (first
    | (go_at_call 8; go_must (refine (awake_any _).mono ?_; rintro e w0 ⟨rfl, hbw⟩; have Hbw := Lib.hid hbw; clear hbw))
    | (go_at_call 9; go_must (refine (New_dk (H := []) (w0 := w) n Hb.out.1 Hb.out.2 Hbw.out (fun p hp => by cases hp)).mono ?_; rintro e w1 ⟨g, rfl, hn1⟩; have H1 := Lib.hid hn1; clear hn1))
    | (go_at_call 19; go_must (refine (New_pd H1.out n Hb.out.1 Hb.out.2).mono ?_; rintro e w2 ⟨g', rfl, hn2⟩; have H2 := Lib.hid hn2; clear hn2))
    | (go_at_call 20; go_must (refine (SectorsP H2.out).mono ?_; rintro e w3 ⟨rfl, rfl⟩; rw [show (DS.fresh n).secs.length = n from List.length_replicate])))
  go_loopw [46] (fun i wr => ∃ (k : Nat) (s : DS), k ≤ qs.length ∧ i = .int .i64 k ∧ Hid (Fit s k) ∧ Hid (PD w wr g s g' s [])) (fun i _ => qs.length - (intOf i).toNat)
  case atStart => exact ⟨0, _, Nat.zero_le _, rfl, ⟨fun hl => (by cases hl), Nat.zero_le _⟩, H2.out⟩
  case round =>
    obtain ⟨k, s, hk, rfl, hI, hT⟩ := hrel
    clear H1 H2
    by_cases hlt : k < qs.length
    · have hlt' : (k : Int) < (qs.length : Int) := by omega
      have hk0 : (0 : Int) ≤ (k : Int) := by omega
      have hmx := Hmx k hlt
      obtain ⟨q, hq⟩ : ∃ q, qs[k]? = some q := ⟨_, List.getElem?_eq_getElem hlt⟩
      obtain ⟨⟨b, off, A3, c3, rfl, hb, hc0, hc1, hc2, hc3, hrd⟩, hN⟩ := Has.out k q hq
      obtain ⟨kd, N, bt, ch⟩ := q
      simp only at hc0 hc1 hc2 hc3 hrd hN
      have hcell : ∀ i v, w.cell? ⟨b, off + (k * 4 + i), none⟩ = some v → wr.cell? ⟨b, off + k * 4 + i, none⟩ = some v := fun i v h => by rw [Nat.add_assoc]; exact (hT.out.below0.cell (p := ⟨b, off + (k * 4 + i), none⟩) hb).trans h
      have e0 : wr.cell? ⟨b, off + k * 4, none⟩ = some (.int .i64 kd) := hcell 0 _ hc0
      have e1 := hcell 1 _ hc1
      have e2 := hcell 2 _ hc2
      have e3 := hcell 3 _ hc3
      have Hrd := Lib.hid hrd
      have HN := Lib.hid hN
      have hbt : (bt.toNat : Int) < 256 := by have := bt.toNat_lt; omega
      have hfo := hI.out.1
      have Hfo := Lib.hid hfo
      have hlen : (s.pend.length + 1) * 72 ≤ 140737488355328 := by have := hI.out.2; have := Hmax.out; omega
      have Hlen := Lib.hid hlen
      clear hc0 hc1 hc2 hc3 hrd hN hq hcell hfo hlen hb
      have hD1 := ((hT.out.hold (.cells #[.int .i64 kd, .int .i64 N, .int .u8 (bt.toNat : Int), .slice A3 ch.length c3] 47)).hold (.cells zs 28)).hold (.cells zs 28)
      simp only [show ∀ (w : World) (o : Obj), (w.alloc o).heap.size = w.heap.size + 1 from fun w o => by simp, Nat.add_assoc, Nat.reduceAdd] at hD1
      have HD := Lib.hid hD1
      clear hD1
      by_cases hk1 : kd = 1
      · subst hk1
        go_wp2
        generalize (((wr.alloc (.cells #[.int .i64 1, .int .i64 N, .int .u8 (bt.toNat : Int), .slice A3 ch.length c3] 47)).alloc (.cells zs 28)).alloc (.cells zs 28)) = w1 at *
        refine AnyC.start (fun w' => w'.heap[wr.heap.size]? = some (Obj.cells #[.int .i64 1, .int .i64 N, .int .u8 (bt.toNat : Int), .slice A3 ch.length c3] 47)) (by kernel_rfl) rfl ?_
        have hx := HD.out.drew (w1.drawn + 1)
        generalize ({ w1 with drawn := w1.drawn + 1 } : World) = wx at *
        have HX := Lib.hid hx
        clear hx HD
        apply AnyC.take (i := 0) rfl (by kernel_rfl) rfl
        · intro w' hC K hK
          go_wp2
          exact hK
        · rfl
        apply AnyC.take (i := 1) rfl (by kernel_rfl) rfl
        · intro w' hC K hK
          go_wp2
          exact hK
        · rfl
        apply AnyC.take (i := 2) rfl (by kernel_rfl) rfl
        · intro w' hC K hK
          have co : w'.cell? ⟨wr.heap.size, 1, none⟩ = some (.int .i64 N) := (by rw [cell_of_row w' wr.heap.size 1 _ _ _ hC]; rfl)
          go_wp2
          exact hK
        · rfl
        apply AnyC.take (i := 3) rfl (by kernel_rfl) rfl
        · intro w' hC K hK
          go_wp2
          exact hK
        · rfl
        apply AnyC.take (i := 4) rfl (by kernel_rfl) rfl
        · intro w' hC K hK
          have co : w'.cell? ⟨wr.heap.size, 2, none⟩ = some (.int .u8 (bt.toNat : Int)) := (by rw [cell_of_row w' wr.heap.size 2 _ _ _ hC]; rfl)
          go_wp2
          exact hK
        · rfl
        apply AnyC.take (i := 7) rfl (by kernel_rfl) rfl
        · intro w' hC K hK
          go_wp2
          exact hK
        · rfl
        apply AnyC.take (i := 8) rfl (by kernel_rfl) rfl
        · intro w' hC K hK
          go_wp2
          exact hK
        · rfl
        apply AnyC.take (i := 9) rfl (by kernel_rfl) rfl
        · intro w' hC K hK
          have co : w'.cell? ⟨wr.heap.size, 1, none⟩ = some (.int .i64 N) := (by rw [cell_of_row w' wr.heap.size 1 _ _ _ hC]; rfl)
          go_wp2
          exact hK
        · rfl
        apply AnyC.take (i := 10) rfl (by kernel_rfl) rfl
        · intro w' hC K hK
          go_wp2
          exact hK
        · rfl
        apply AnyC.take (i := 11) rfl (by kernel_rfl) rfl
        · intro w' hC K hK
          have co : w'.cell? ⟨wr.heap.size, 2, none⟩ = some (.int .u8 (bt.toNat : Int)) := (by rw [cell_of_row w' wr.heap.size 2 _ _ _ hC]; rfl)
          go_wp2
          exact hK
        · rfl
        apply AnyC.solo (i := 5) rfl (by kernel_rfl) (HX.out.held (p := (wr.heap.size, Obj.cells #[.int .i64 1, .int .i64 N, .int .u8 (bt.toNat : Int), .slice A3 ch.length c3] 47)) (by simp))
        go_wp2_with (go_at_call 11; go_must (refine (filled_any bt _).mono ?_; rintro e w2 ⟨rfl, hb2⟩; have H2 := Lib.hid (HX.out.below hb2); clear hb2 HX))
        refine ⟨rfl, ?_⟩
        apply AnyC.solo (i := 6) rfl (by kernel_rfl) (H2.out.held (p := (wr.heap.size, Obj.cells #[.int .i64 1, .int .i64 N, .int .u8 (bt.toNat : Int), .slice A3 ch.length c3] 47)) (by simp))
        go_wp2_with (go_at_call 10; go_must (refine (WriteP H2.out N (fillB bt) (fillB_length bt) Hlen.out).mono ?_; rintro e w3 ⟨rfl, h3⟩; have H3 := Lib.hid h3; clear h3 H2))
        refine ⟨rfl, ?_⟩
        apply AnyC.solo (i := 12) rfl (by kernel_rfl) (H3.out.held (p := (wr.heap.size, Obj.cells #[.int .i64 1, .int .i64 N, .int .u8 (bt.toNat : Int), .slice A3 ch.length c3] 47)) (by simp))
        go_wp2_with (go_at_call 11; go_must (refine (filled_any bt _).mono ?_; rintro e w4 ⟨rfl, hb4⟩; have H4 := Lib.hid (H3.out.below hb4); clear hb4 H3))
        refine ⟨rfl, ?_⟩
        apply AnyC.solo (i := 13) rfl (by kernel_rfl) (H4.out.held (p := (wr.heap.size, Obj.cells #[.int .i64 1, .int .i64 N, .int .u8 (bt.toNat : Int), .slice A3 ch.length c3] 47)) (by simp))
        go_wp2_with (go_at_call 21; go_must (refine (WriteR H4.out Hfo.out N (fillB bt) (fillB_length bt) Hlen.out).mono ?_; rintro e w5 ⟨rfl, h5⟩; have H5 := Lib.hid h5; clear h5 H4))
        refine ⟨rfl, ?_⟩
        apply AnyC.take (i := 14) rfl (by kernel_rfl) rfl
        · intro w' hC K hK
          go_wp2
          exact hK
        · rfl
        apply AnyC.take (i := 15) rfl (by kernel_rfl) rfl
        · intro w' hC K hK
          go_wp2
          exact hK
        · rfl
        refine AnyC.done (H5.out.held (p := (wr.heap.size, Obj.cells #[.int .i64 1, .int .i64 N, .int .u8 (bt.toNat : Int), .slice A3 ch.length c3] 47)) (by simp)) (by kernel_rfl) ?_
        go_wp2_with (first
          | (have hx_ := H5; refine wpList_load_want rfl _ _ rfl (wr.heap.size + 1) 0 rfl zs _ (range_of (H5.out.held (p := (wr.heap.size + 1, Obj.cells zs 28)) (by simp))) Try.underlying28 rfl (by rw [Hzz.out]; kernel_rfl) ?_)
          | (have hx_ := H5; refine wpList_load_want rfl _ _ rfl (wr.heap.size + 2) 0 rfl zs _ (range_of (H5.out.held (p := (wr.heap.size + 2, Obj.cells zs 28)) (by simp))) Try.underlying28 rfl (by rw [Hzz.out]; kernel_rfl) ?_)
          | (go_at_call 16; have hx_ := H5; refine (WaitingP H5.out).mono ?_; rintro e w9 ⟨rfl, rfl⟩)
          | (go_at_call 27; have hx_ := H5; refine (WaitingR H5.out).mono ?_; rintro e w9 ⟨rfl, rfl⟩)
          | (go_at_call 17; have hx_ := H5; refine (DownP H5.out).mono ?_; rintro e w9 ⟨rfl, rfl⟩)
          | (go_at_call 28; have hx_ := H5; refine (DownR H5.out).mono ?_; rintro e w9 ⟨rfl, rfl⟩))
        go_roundw
        case rel => exact ⟨k + 1, (s.write N (fillB bt)).2, hlt, by go_num, hI.out.write N (fillB bt), H5.out.drop (fun p hp => by cases hp)⟩
        case measure => simp [intOf]; omega
      by_cases hk2 : kd = 2
      · subst hk2
        go_wp2_with (first
          | (go_at_call 13; have hx_ := HD; refine (SyncP HD.out).mono ?_; rintro e w2 ⟨rfl, h2⟩; have H2 := Lib.hid h2; clear h2 hx_ HD)
          | (go_at_call 22; have hx_ := H2; refine (SyncR H2.out Hfo.out).mono ?_; rintro e w3 ⟨rfl, h3⟩; have H3 := Lib.hid h3; clear h3 hx_ H2)
          | (have hx_ := H3; refine wpList_load_want rfl _ _ rfl (wr.heap.size + 1) 0 rfl zs _ (range_of (H3.out.held (p := (wr.heap.size + 1, Obj.cells zs 28)) (by simp))) Try.underlying28 rfl (by rw [Hzz.out]; kernel_rfl) ?_)
          | (have hx_ := H3; refine wpList_load_want rfl _ _ rfl (wr.heap.size + 2) 0 rfl zs _ (range_of (H3.out.held (p := (wr.heap.size + 2, Obj.cells zs 28)) (by simp))) Try.underlying28 rfl (by rw [Hzz.out]; kernel_rfl) ?_)
          | (go_at_call 16; have hx_ := H3; refine (WaitingP H3.out).mono ?_; rintro e w9 ⟨rfl, rfl⟩)
          | (go_at_call 27; have hx_ := H3; refine (WaitingR H3.out).mono ?_; rintro e w9 ⟨rfl, rfl⟩)
          | (go_at_call 17; have hx_ := H3; refine (DownP H3.out).mono ?_; rintro e w9 ⟨rfl, rfl⟩)
          | (go_at_call 28; have hx_ := H3; refine (DownR H3.out).mono ?_; rintro e w9 ⟨rfl, rfl⟩))
        go_roundw
        case rel => exact ⟨k + 1, s.sync.2, hlt, by go_num, hI.out.sync, H3.out.drop (fun p hp => by cases hp)⟩
        case measure => simp [intOf]; omega
      by_cases hk3 : kd = 3
      · subst hk3
        obtain ⟨ds, hds⟩ : ∃ ds : Array Value, ds = (bvs (s.read N).1).toArray := ⟨_, rfl⟩
        have hdl : (s.read N).1.length = 64 := read_len hT.out.ok N
        have hdz : ds.size = 64 := by rw [hds, List.size_toArray, bvs_length, hdl]
        have hqd : ∀ w, (Op.equalIn 10000 28 (.agg ds) (.agg ds)).run Try.prog w = .ok true w := fun w => by rw [hds, eq64 9998 _ _ hdl hdl w, beq_self_eq_true]
        have Hds := Lib.hid hds
        have Hdz := Lib.hid hdz
        have Hbase : Hid (w.heap.size ≤ wr.heap.size) := hT.out.below0.size
        clear hds hdl hdz
        go_wp2_with (first
          | (go_at_call 14; have hx_ := HD; refine (ReadP HD.out N).mono ?_; rintro e w2 ⟨rfl, h2⟩; have H2 := Lib.hid h2; have co1 : w2.cell? ⟨wr.heap.size, 1, none⟩ = some (.int .i64 N) := (by rw [cell_of_row _ wr.heap.size 1 _ _ _ (h2.held (p := (wr.heap.size, Obj.cells #[.int .i64 3, .int .i64 N, .int .u8 (bt.toNat : Int), .slice A3 ch.length c3] 47)) (by simp))]; rfl); rw [← Hds.out]; clear h2 hx_ HD)
          | (have hx_ := H2; refine wpList_store_mid rfl _ _ _ rfl (wr.heap.size + 1) 0 ds rfl rfl (by rw [Hdz.out]; exact there_of (H2.out.held (p := (wr.heap.size + 1, Obj.cells zs 28)) (by simp)) 64 (by rw [Hzz.out]; exact Nat.le_refl _)) (by rw [Hdz.out]; kernel_rfl) (by rw [Hds.out]; exact all_oneCell_toArray (bvs_one _)) ?_; have h_ := H2.out.store (b := wr.heap.size + 1) (c := zs) (v := ds) (ty := 28) (H' := [(wr.heap.size + 2, Obj.cells zs 28), (wr.heap.size + 1, Obj.cells ds 28), (wr.heap.size, Obj.cells #[.int .i64 3, .int .i64 N, .int .u8 (bt.toNat : Int), .slice A3 ch.length c3] 47)]) (by simp) (by rw [Hzz.out, Hdz.out]) (by have := Hbase.out; omega) (by intro p hp; simp only [List.mem_cons, List.not_mem_nil, or_false] at hp; rcases hp with rfl | rfl | rfl; (first | exact .inl rfl | exact .inr ⟨by simp, by simp⟩); (first | exact .inl rfl | exact .inr ⟨by simp, by simp⟩); exact .inr ⟨by simp, by simp⟩); generalize (w2.setCells (wr.heap.size + 1) 0 ds.toList) = w3 at *; have co1 : w3.cell? ⟨wr.heap.size, 1, none⟩ = some (.int .i64 N) := (by rw [cell_of_row _ wr.heap.size 1 _ _ _ (h_.held (p := (wr.heap.size, Obj.cells #[.int .i64 3, .int .i64 N, .int .u8 (bt.toNat : Int), .slice A3 ch.length c3] 47)) (by simp))]; rfl); have H3 := Lib.hid h_; clear h_ H2 hx_)
          | (go_at_call 23; have hx_ := H3; refine (ReadR H3.out N).mono ?_; rintro e w4 ⟨rfl, h4⟩; have H4 := Lib.hid h4; have co1 : w4.cell? ⟨wr.heap.size, 1, none⟩ = some (.int .i64 N) := (by rw [cell_of_row _ wr.heap.size 1 _ _ _ (h4.held (p := (wr.heap.size, Obj.cells #[.int .i64 3, .int .i64 N, .int .u8 (bt.toNat : Int), .slice A3 ch.length c3] 47)) (by simp))]; rfl); rw [← Hds.out]; clear h4 hx_ H3)
          | (have hx_ := H4; refine wpList_store_mid rfl _ _ _ rfl (wr.heap.size + 2) 0 ds rfl rfl (by rw [Hdz.out]; exact there_of (H4.out.held (p := (wr.heap.size + 2, Obj.cells zs 28)) (by simp)) 64 (by rw [Hzz.out]; exact Nat.le_refl _)) (by rw [Hdz.out]; kernel_rfl) (by rw [Hds.out]; exact all_oneCell_toArray (bvs_one _)) ?_; have h_ := H4.out.store (b := wr.heap.size + 2) (c := zs) (v := ds) (ty := 28) (H' := [(wr.heap.size + 2, Obj.cells ds 28), (wr.heap.size + 1, Obj.cells ds 28), (wr.heap.size, Obj.cells #[.int .i64 3, .int .i64 N, .int .u8 (bt.toNat : Int), .slice A3 ch.length c3] 47)]) (by simp) (by rw [Hzz.out, Hdz.out]) (by have := Hbase.out; omega) (by intro p hp; simp only [List.mem_cons, List.not_mem_nil, or_false] at hp; rcases hp with rfl | rfl | rfl; (first | exact .inl rfl | exact .inr ⟨by simp, by simp⟩); (first | exact .inl rfl | exact .inr ⟨by simp, by simp⟩); exact .inr ⟨by simp, by simp⟩); generalize (w4.setCells (wr.heap.size + 2) 0 ds.toList) = w5 at *; have co1 : w5.cell? ⟨wr.heap.size, 1, none⟩ = some (.int .i64 N) := (by rw [cell_of_row _ wr.heap.size 1 _ _ _ (h_.held (p := (wr.heap.size, Obj.cells #[.int .i64 3, .int .i64 N, .int .u8 (bt.toNat : Int), .slice A3 ch.length c3] 47)) (by simp))]; rfl); have H5 := Lib.hid h_; clear h_ H4 hx_)
          | (have hx_ := H5; refine wpList_load_want rfl _ _ rfl (wr.heap.size + 1) 0 rfl ds _ (range_of (H5.out.held (p := (wr.heap.size + 1, Obj.cells ds 28)) (by simp))) Try.underlying28 rfl (by rw [Hdz.out]; kernel_rfl) ?_)
          | (have hx_ := H5; refine wpList_load_want rfl _ _ rfl (wr.heap.size + 2) 0 rfl ds _ (range_of (H5.out.held (p := (wr.heap.size + 2, Obj.cells ds 28)) (by simp))) Try.underlying28 rfl (by rw [Hdz.out]; kernel_rfl) ?_)
          | (go_at_call 16; have hx_ := H5; refine (WaitingP H5.out).mono ?_; rintro e w9 ⟨rfl, rfl⟩)
          | (go_at_call 27; have hx_ := H5; refine (WaitingR H5.out).mono ?_; rintro e w9 ⟨rfl, rfl⟩)
          | (go_at_call 17; have hx_ := H5; refine (DownP H5.out).mono ?_; rintro e w9 ⟨rfl, rfl⟩)
          | (go_at_call 28; have hx_ := H5; refine (DownR H5.out).mono ?_; rintro e w9 ⟨rfl, rfl⟩))
        go_roundw
        case rel => exact ⟨k + 1, s, hlt, by go_num, hI.out.more, H5.out.drop (fun p hp => by cases hp)⟩
        case measure => simp [intOf]; omega
      by_cases hk4 : kd = 4
      · subst hk4
        go_wp2_with (first
          | (go_at_call 12; have hx_ := HD; refine (SetFullP HD.out _).mono ?_; rintro e w2 ⟨rfl, h2⟩; have H2 := Lib.hid h2; have co2 : w2.cell? ⟨wr.heap.size, 2, none⟩ = some (.int .u8 (bt.toNat : Int)) := (by rw [cell_of_row _ wr.heap.size 2 _ _ _ (h2.held (p := (wr.heap.size, Obj.cells #[.int .i64 4, .int .i64 N, .int .u8 (bt.toNat : Int), .slice A3 ch.length c3] 47)) (by simp))]; rfl); clear h2 hx_ HD)
          | (go_at_call 24; have hx_ := H2; refine (SetFullR H2.out _).mono ?_; rintro e w3 ⟨rfl, h3⟩; have H3 := Lib.hid h3; clear h3 hx_ H2)
          | (have hx_ := H3; refine wpList_load_want rfl _ _ rfl (wr.heap.size + 1) 0 rfl zs _ (range_of (H3.out.held (p := (wr.heap.size + 1, Obj.cells zs 28)) (by simp))) Try.underlying28 rfl (by rw [Hzz.out]; kernel_rfl) ?_)
          | (have hx_ := H3; refine wpList_load_want rfl _ _ rfl (wr.heap.size + 2) 0 rfl zs _ (range_of (H3.out.held (p := (wr.heap.size + 2, Obj.cells zs 28)) (by simp))) Try.underlying28 rfl (by rw [Hzz.out]; kernel_rfl) ?_)
          | (go_at_call 16; have hx_ := H3; refine (WaitingP H3.out).mono ?_; rintro e w9 ⟨rfl, rfl⟩)
          | (go_at_call 27; have hx_ := H3; refine (WaitingR H3.out).mono ?_; rintro e w9 ⟨rfl, rfl⟩)
          | (go_at_call 17; have hx_ := H3; refine (DownP H3.out).mono ?_; rintro e w9 ⟨rfl, rfl⟩)
          | (go_at_call 28; have hx_ := H3; refine (DownR H3.out).mono ?_; rintro e w9 ⟨rfl, rfl⟩))
        go_roundw
        case rel => exact ⟨k + 1, _, hlt, by go_num, hI.out.full _, H3.out.drop (fun p hp => by cases hp)⟩
        case measure => simp [intOf]; omega
      by_cases hk5 : kd = 5
      · subst hk5
        go_wp2_with (first
          | (go_at_call 18; have hx_ := HD; refine (SetFuseP HD.out N).mono ?_; rintro e w2 ⟨rfl, h2⟩; have H2 := Lib.hid h2; have co1 : w2.cell? ⟨wr.heap.size, 1, none⟩ = some (.int .i64 N) := (by rw [cell_of_row _ wr.heap.size 1 _ _ _ (h2.held (p := (wr.heap.size, Obj.cells #[.int .i64 5, .int .i64 N, .int .u8 (bt.toNat : Int), .slice A3 ch.length c3] 47)) (by simp))]; rfl); clear h2 hx_ HD)
          | (go_at_call 25; have hx_ := H2; refine (SetFuseR H2.out N).mono ?_; rintro e w3 ⟨rfl, h3⟩; have H3 := Lib.hid h3; clear h3 hx_ H2)
          | (have hx_ := H3; refine wpList_load_want rfl _ _ rfl (wr.heap.size + 1) 0 rfl zs _ (range_of (H3.out.held (p := (wr.heap.size + 1, Obj.cells zs 28)) (by simp))) Try.underlying28 rfl (by rw [Hzz.out]; kernel_rfl) ?_)
          | (have hx_ := H3; refine wpList_load_want rfl _ _ rfl (wr.heap.size + 2) 0 rfl zs _ (range_of (H3.out.held (p := (wr.heap.size + 2, Obj.cells zs 28)) (by simp))) Try.underlying28 rfl (by rw [Hzz.out]; kernel_rfl) ?_)
          | (go_at_call 16; have hx_ := H3; refine (WaitingP H3.out).mono ?_; rintro e w9 ⟨rfl, rfl⟩)
          | (go_at_call 27; have hx_ := H3; refine (WaitingR H3.out).mono ?_; rintro e w9 ⟨rfl, rfl⟩)
          | (go_at_call 17; have hx_ := H3; refine (DownP H3.out).mono ?_; rintro e w9 ⟨rfl, rfl⟩)
          | (go_at_call 28; have hx_ := H3; refine (DownR H3.out).mono ?_; rintro e w9 ⟨rfl, rfl⟩))
        go_roundw
        case rel => exact ⟨k + 1, s.setFuse N, hlt, by go_num, hI.out.fuse N HN.out, H3.out.drop (fun p hp => by cases hp)⟩
        case measure => simp [intOf]; omega
      by_cases hk6 : kd = 6
      · subst hk6
        go_wp2_with (first
          | (go_at_call 15; have hx_ := HD; refine (RestartP HD.out (Hrd.out.below HD.out.below0)).mono ?_; rintro e w2 ⟨rfl, h2⟩; have H2 := Lib.hid h2; have co3 : w2.cell? ⟨wr.heap.size, 3, none⟩ = some (.slice A3 ch.length c3) := (by rw [cell_of_row _ wr.heap.size 3 _ _ _ (h2.held (p := (wr.heap.size, Obj.cells #[.int .i64 6, .int .i64 N, .int .u8 (bt.toNat : Int), .slice A3 ch.length c3] 47)) (by simp))]; rfl); clear h2 hx_ HD)
          | (go_at_call 26; have hx_ := H2; refine (RestartR H2.out (Hrd.out.below H2.out.below0)).mono ?_; rintro e w3 ⟨rfl, h3⟩; have H3 := Lib.hid h3; clear h3 hx_ H2)
          | (have hx_ := H3; refine wpList_load_want rfl _ _ rfl (wr.heap.size + 1) 0 rfl zs _ (range_of (H3.out.held (p := (wr.heap.size + 1, Obj.cells zs 28)) (by simp))) Try.underlying28 rfl (by rw [Hzz.out]; kernel_rfl) ?_)
          | (have hx_ := H3; refine wpList_load_want rfl _ _ rfl (wr.heap.size + 2) 0 rfl zs _ (range_of (H3.out.held (p := (wr.heap.size + 2, Obj.cells zs 28)) (by simp))) Try.underlying28 rfl (by rw [Hzz.out]; kernel_rfl) ?_)
          | (go_at_call 16; have hx_ := H3; refine (WaitingP H3.out).mono ?_; rintro e w9 ⟨rfl, rfl⟩)
          | (go_at_call 27; have hx_ := H3; refine (WaitingR H3.out).mono ?_; rintro e w9 ⟨rfl, rfl⟩)
          | (go_at_call 17; have hx_ := H3; refine (DownP H3.out).mono ?_; rintro e w9 ⟨rfl, rfl⟩)
          | (go_at_call 28; have hx_ := H3; refine (DownR H3.out).mono ?_; rintro e w9 ⟨rfl, rfl⟩))
        go_roundw
        case rel => exact ⟨k + 1, s.restart ch, hlt, by go_num, Fit.restart ch, H3.out.drop (fun p hp => by cases hp)⟩
        case measure => simp [intOf]; omega
      have v1 : (kd == 1) = false := by simpa using hk1
      have v2 : (kd == 2) = false := by simpa using hk2
      have v3 : (kd == 3) = false := by simpa using hk3
      have v4 : (kd == 4) = false := by simpa using hk4
      have v5 : (kd == 5) = false := by simpa using hk5
      have v6 : (kd == 6) = false := by simpa using hk6
      clear hk1 hk2 hk3 hk4 hk5 hk6
      go_wp2_with (first
        | (have hx_ := HD; refine wpList_load_want rfl _ _ rfl (wr.heap.size + 1) 0 rfl zs _ (range_of (HD.out.held (p := (wr.heap.size + 1, Obj.cells zs 28)) (by simp))) Try.underlying28 rfl (by rw [Hzz.out]; kernel_rfl) ?_)
        | (have hx_ := HD; refine wpList_load_want rfl _ _ rfl (wr.heap.size + 2) 0 rfl zs _ (range_of (HD.out.held (p := (wr.heap.size + 2, Obj.cells zs 28)) (by simp))) Try.underlying28 rfl (by rw [Hzz.out]; kernel_rfl) ?_)
        | (go_at_call 16; have hx_ := HD; refine (WaitingP HD.out).mono ?_; rintro e w9 ⟨rfl, rfl⟩)
        | (go_at_call 27; have hx_ := HD; refine (WaitingR HD.out).mono ?_; rintro e w9 ⟨rfl, rfl⟩)
        | (go_at_call 17; have hx_ := HD; refine (DownP HD.out).mono ?_; rintro e w9 ⟨rfl, rfl⟩)
        | (go_at_call 28; have hx_ := HD; refine (DownR HD.out).mono ?_; rintro e w9 ⟨rfl, rfl⟩))
      go_roundw
      case rel => exact ⟨k + 1, s, hlt, by go_num, hI.out.more, HD.out.drop (fun p hp => by cases hp)⟩
      case measure => simp [intOf]; omega
    · obtain rfl : k = qs.length := by omega
      go_wp2
      go_ret
      exact ⟨rfl, hT.out.below0⟩
theorem DiskPlays_walk (v0 v1 : Value) (n : Int) (qs : List OpQ) (w : World) (a0 : ArgI v0 n) (a1 : ArgOps w v1 qs) : Calls Try.prog 6 #[v0, v1] w fun e w' => e = .returned (.bool true) ∧ Below w.heap.size w w' := by
  obtain ⟨rfl, _⟩ := a0
  obtain ⟨A, c, rfl, hm, hq⟩ := a1
  by_cases hbad : badN n
  · exact DPlays_bad n hbad _ w
  · have hb : 1 ≤ n ∧ n ≤ 65536 := by unfold badN at hbad; omega
    obtain ⟨m, rfl⟩ : ∃ m : Nat, n = (m : Int) := ⟨n.toNat, by omega⟩
    exact DPlays_good m (by omega) (by omega) qs w hm hq
end Go.Proofs.Ytdggibigfocadaa
