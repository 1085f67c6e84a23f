/- The walk of the reference's Read. No conditions. -/
import Derived.Test.YtdggibigfocadaaE4
import Derived.Test.YtdggibigfocadaaLFull0
namespace Go.Proofs.Ytdggibigfocadaa
open Go.RowKit
variable {w w' w0 : World} {base g : Nat} {own : Nat → Prop} {s : DS} {S P : Value}
theorem alloc_over (t : TypeId) (c v : Array Value) (b : Nat) (hb : b = w.heap.size) (h : c.size = v.size) : (w.alloc (.cells c t)).setCells b 0 v.toList = w.alloc (.cells v t) := by
  subst hb
  exact alloc_all t c v h
theorem there_old {b o n : Nat} (h : w.there b o n) (hb : b < w.heap.size) (ob : Obj) : (w.alloc ob).there b o n := fun j hj =>
  ⟨(World.cell?_alloc_lt w ob ⟨b, o + j, none⟩ hb).symm ▸ (h j hj).1, (World.frozen?_of_block (a := ⟨b, o + j, none⟩) (Below.heap_alloc w ob b hb)).trans (h j hj).2⟩
/-- What a forward look has found behind k waiting writes. -/
def seen (l : List (Nat × List UInt8)) (n : Nat) (d : List UInt8) (k : Nat) : List UInt8 := (lastP (l.take k) n).getD d
theorem seen_hit {l : List (Nat × List UInt8)} {n k : Nat} {d : List UInt8} {p : Nat × List UInt8} (hp : l[k]? = some p) (hn : p.1 = n) : seen l n d (k + 1) = p.2 := by
  unfold seen
  have h2 : l.take (k + 1) = l.take k ++ [p] := by rw [List.take_add_one, hp]; rfl
  rw [h2, lastP_append]
  simp [lastP, hn]
theorem seen_miss {l : List (Nat × List UInt8)} {n k : Nat} {d : List UInt8} {p : Nat × List UInt8} (hp : l[k]? = some p) (hn : p.1 ≠ n) : seen l n d (k + 1) = seen l n d k := by
  unfold seen
  have h2 : l.take (k + 1) = l.take k ++ [p] := by rw [List.take_add_one, hp]; rfl
  rw [h2, lastP_append]
  simp [lastP, hn]
set_option maxRecDepth 100000 in
set_option maxHeartbeats 1000000 in
theorem RRead_any (h : Rdk w base own g s S P) (n : Int) : Calls Try.prog 23 #[.pointer (some ⟨g, 0, none⟩), .int .i64 n] w (ReadPost (s.read n) w) := by
  obtain ⟨zs, hzs⟩ : ∃ zs : Array Value, zs = (bvs zero64).toArray := ⟨_, rfl⟩
  have hz28 : ∀ w, (zeroValue 28).run Try.prog w = .ok (.agg zs) w := fun w => by rw [hzs]; kernel_rfl
  have Hzs := Lib.hid hzs
  have hzz : zs.size = 64 := by rw [hzs]; rfl
  have Hzz := Lib.hid hzz
  clear hzs hzz
  have hA := h.below ((Below.refl _ _).alloc (Nat.le_refl w.heap.size) (.cells zs 28))
  have f0 := hA.field (i := 0) rfl
  obtain ⟨AS, cS, hS⟩ := h.formS
  rw [hS] at f0
  have HA := Lib.hid hA
  by_cases hin : 0 ≤ n ∧ n < (s.secs.length : Int)
  · have hd0 : decide (n < 0) = false := decide_eq_false (by omega)
    have hd1 : decide ((s.secs.length : Int) ≤ n) = false := decide_eq_false (by omega)
    have Hin := Lib.hid hin
    cases hdn : s.down with
    | true =>
      have Hdn := Lib.hid hdn
      have f4 := hA.field (i := 4) rfl
      rw [hdn] at f4
      clear hdn hin hA hS
      go_enter Try.func23, Try.ntmps23
      go_wp2_with (first
        | (refine buildZ rfl rfl ?_; rw [← Hzs.out])
        | (refine wpList_store_mid rfl _ _ _ rfl w.heap.size 0 zs rfl rfl (by rw [Hzz.out]; exact there_new w _ _ 64 (by rw [Hzz.out]; exact Nat.le_refl _)) (by rw [Hzz.out]; kernel_rfl) (by rw [Hzs.out]; exact all_oneCell_toArray (bvs_one _)) ?_))
      have hld : (loadVar 28 ⟨w.heap.size, 0, none⟩).run Try.prog ((w.alloc (.cells zs 28)).setCells w.heap.size 0 zs.toList) = .ok (.agg zs.toList.toArray) ((w.alloc (.cells zs 28)).setCells w.heap.size 0 zs.toList) :=
        run_loadVar_mid _ _ _ _ zs.toList _ (World.rangeAt_setCells_same _ _ _ _ (by rw [Array.length_toList, Hzz.out]; exact there_new w _ _ 64 (by rw [Hzz.out]; exact Nat.le_refl _))) Try.underlying28 rfl (by rw [Array.length_toList, Hzz.out]; kernel_rfl)
      refine bodyPost_ret (v := .tuple #[.agg zs.toList.toArray, .int .i64 9]) (by simp [results, Try.results23, asAddr, hld]) rfl ?_
      exact ReadPost.mk (by unfold DS.read; rw [if_pos Hin.out, if_pos Hdn.out]) (by rw [Hzs.out]) (below_setCells _ _ _ ((Below.refl _ _).alloc (Nat.le_refl _) _) (Nat.le_refl _))
    | false =>
      have Hdn := Lib.hid hdn
      have f4 := hA.field (i := 4) rfl
      rw [hdn] at f4
      obtain ⟨AP, cP, rfl⟩ := h.formP
      have hB := fun xs : Array Value => hA.below ((Below.refl _ _).alloc (Nat.le_refl (w.alloc (.cells zs 28)).heap.size) (.cells xs 28))
      have HB := Lib.hid hB
      have hmx := h.pendMax
      have hmx2 : (0 : Int) ≤ (s.pend.length : Int) := by omega
      obtain ⟨nn, rfl⟩ : ∃ nn : Nat, n = (nn : Int) := ⟨n.toNat, by omega⟩
      have hnn : nn < s.secs.length := by omega
      have hn1 : (nn : Int) < (s.secs.length : Int) := hin.2
      have hn0 : (0 : Int) ≤ (nn : Int) := hin.1
      obtain ⟨e0, he0⟩ : ∃ d0, s.secs[nn]? = some d0 := ⟨_, List.getElem?_eq_getElem hnn⟩
      obtain ⟨gS, cS', hS', hoS, hgS, hrS, htS⟩ := hA.secAt he0
      obtain ⟨rfl, rfl⟩ : AS = some ⟨gS, 0, none⟩ ∧ cS = cS' := by rw [hS] at hS'; injection hS'; exact ⟨by assumption, by assumption⟩
      obtain ⟨es, hes⟩ : ∃ ds : Array Value, ds = (bvs e0).toArray := ⟨_, rfl⟩
      have hel : e0.length = 64 := hA.ok.secs e0 (List.mem_of_getElem? he0)
      have Hel := Lib.hid hel
      have hez : es.size = 64 := by rw [hes, List.size_toArray, bvs_length, hel]
      have Hez := Lib.hid hez
      have Hes := Lib.hid hes
      have HrS := Lib.hid hrS
      have He0 := Lib.hid he0
      have f1 := (hB es).field (i := 1) rfl
      clear hdn hin hA hS hS' hrS htS hel hez hes he0 hnn hB
      go_enter Try.func23, Try.ntmps23
      go_wp2_with (first
        | (refine wpList_load_mid rfl _ _ rfl gS (nn * 64) rfl (bvs e0) _ HrS.out Try.underlying28 rfl (by rw [bvs_length, Hel.out]; kernel_rfl) ?_; rw [← Hes.out])
        | (refine wpList_store_mid rfl _ _ _ rfl (w.heap.size + 1) 0 es rfl rfl (by rw [Hez.out]; exact (by simpa using there_new (w.alloc (.cells zs 28)) zs 28 64 (by rw [Hzz.out]; exact Nat.le_refl _))) (by rw [Hez.out]; kernel_rfl) (by rw [Hes.out]; exact all_oneCell_toArray (bvs_one _)) ?_; rw [alloc_over _ zs es _ (by simp) (by rw [Hzz.out, Hez.out])]))
      go_loopw [37] (fun i wr => ∃ (k : Nat) (x : List UInt8) (xs : Array Value), k ≤ s.pend.length ∧ i = .int .i64 k ∧ Hid (x = seen s.pend nn e0 k ∧ x.length = 64) ∧ Hid (xs = (bvs x).toArray) ∧ wr = (w.alloc (.cells zs 28)).alloc (.cells xs 28)) (fun i _ => s.pend.length - (intOf i).toNat)
      case atStart => exact ⟨0, e0, es, Nat.zero_le _, rfl, ⟨rfl, Hel.out⟩, Hes.out, rfl⟩
      case round =>
        obtain ⟨k, x, xs, hk, rfl, hx, hxs, rfl⟩ := hrel
        have hxz : Hid (xs.size = 64) := by show xs.size = 64; rw [hxs.out, List.size_toArray, bvs_length, hx.out.2]
        have f1 := (HB.out xs).field (i := 1) rfl
        by_cases hlt : k < s.pend.length
        · have hlt' : (k : Int) < (s.pend.length : Int) := by omega
          have hk0 : (0 : Int) ≤ (k : Int) := by omega
          have hmx1 : (k : Int) + 1 ≤ 9223372036854775807 := by omega
          obtain ⟨p, hp⟩ : ∃ p, s.pend[k]? = some p := ⟨_, List.getElem?_eq_getElem hlt⟩
          obtain ⟨gP, c, hPe, hoP, hgP, hrP⟩ := (HB.out xs).pendAt (k := k) (p := p) hp
          obtain ⟨rfl, rfl⟩ : AP = some ⟨gP, 0, none⟩ ∧ cP = c := by injection hPe; exact ⟨by assumption, by assumption⟩
          have HrP := Lib.hid hrP
          have Hp := Lib.hid hp
          have hc0 : ((w.alloc (.cells zs 28)).alloc (.cells xs 28)).cell? ⟨gP, k * 65, none⟩ = some (.int .i64 p.1) := hrP 0 _ rfl
          by_cases hpn : p.1 = nn
          · obtain ⟨ds, hds⟩ : ∃ ds : Array Value, ds = (bvs p.2).toArray := ⟨_, rfl⟩
            have hdl : p.2.length = 64 := (h.ok.pend p (List.mem_of_getElem? hp)).2
            have Hdl := Lib.hid hdl
            have hdz : ds.size = 64 := by rw [hds, List.size_toArray, bvs_length, hdl]
            have Hdz := Lib.hid hdz
            have Hds := Lib.hid hds
            have Hpn := Lib.hid hpn
            have hpn' : ((p.1 : Nat) : Int) = (nn : Int) := by omega
            rw [hpn'] at hc0
            clear hrP hPe hdl hds hdz hp hpn hpn'
            go_wp2_with (first
              | (refine wpList_load_mid rfl _ _ rfl gP (k * 65 + 1) rfl (bvs p.2) _ (fun j v hv => by have := HrP.out (j + 1) v (by simpa using hv); rw [show k * 65 + 1 + j = k * 65 + (j + 1) from by omega]; exact this) Try.underlying28 rfl (by rw [bvs_length, Hdl.out]; kernel_rfl) ?_; rw [← Hds.out])
              | (refine wpList_store_mid rfl _ _ _ rfl (w.heap.size + 1) 0 ds rfl rfl (by rw [Hdz.out]; exact (by simpa using there_new (w.alloc (.cells zs 28)) xs 28 64 (by rw [hxz.out]; exact Nat.le_refl _))) (by rw [Hdz.out]; kernel_rfl) (by rw [Hds.out]; exact all_oneCell_toArray (bvs_one _)) ?_; rw [alloc_over _ xs ds _ (by simp) (by rw [hxz.out, Hdz.out])]))
            go_roundw
            case rel => exact ⟨k + 1, p.2, ds, hlt, by go_num, ⟨(seen_hit Hp.out Hpn.out).symm, Hdl.out⟩, Hds.out, rfl⟩
            case measure => simp [intOf]; omega
          · have hpn' : (((p.1 : Nat) : Int) == (nn : Int)) = false := by simp; omega
            have Hpn := Lib.hid hpn
            clear hrP hPe hp hpn
            go_wp2
            go_roundw
            case rel => exact ⟨k + 1, x, xs, hlt, by go_num, ⟨hx.out.1.trans (seen_miss Hp.out Hpn.out).symm, hx.out.2⟩, hxs, rfl⟩
            case measure => simp [intOf]; omega
        · obtain rfl : k = s.pend.length := by omega
          have hold := there_old (there_new w zs 28 64 (by rw [Hzz.out]; exact Nat.le_refl _)) (by simp) (.cells xs 28)
          have Hold := Lib.hid hold
          clear hold
          go_wp2_with (first
            | (refine wpList_load_mid rfl _ _ rfl (w.heap.size + 1) 0 rfl xs.toList _ (by simpa using range_of (heap_alloc_new (w.alloc (.cells zs 28)) (.cells xs 28))) Try.underlying28 rfl (by rw [Array.length_toList, hxz.out]; kernel_rfl) ?_)
            | (refine wpList_store_mid rfl _ _ _ rfl w.heap.size 0 xs rfl rfl (by rw [hxz.out]; exact Hold.out) (by rw [hxz.out]; kernel_rfl) (by rw [hxs.out]; exact all_oneCell_toArray (bvs_one _)) ?_))
          have hld : (loadVar 28 ⟨w.heap.size, 0, none⟩).run Try.prog (((w.alloc (.cells zs 28)).alloc (.cells xs 28)).setCells w.heap.size 0 xs.toList) = .ok (.agg xs.toList.toArray) (((w.alloc (.cells zs 28)).alloc (.cells xs 28)).setCells w.heap.size 0 xs.toList) :=
            run_loadVar_mid _ _ _ _ xs.toList _ (World.rangeAt_setCells_same _ _ _ _ (by rw [Array.length_toList, hxz.out]; exact Hold.out)) Try.underlying28 rfl (by rw [Array.length_toList, hxz.out]; kernel_rfl)
          refine bodyPost_ret (v := .tuple #[.agg xs.toList.toArray, .int .i64 0]) (by simp [results, Try.results23, asAddr, hld]) rfl ?_
          exact ReadPost.mk (x := x) (by unfold DS.read DS.peek; rw [if_pos Hin.out, if_neg (by rw [Hdn.out]; simp), Int.toNat_natCast, hx.out.1]; unfold seen; rw [List.take_length, List.getD_eq_getElem?_getD, He0.out]; rfl) (by rw [hxs.out]) (below_setCells _ _ _ (((Below.refl _ _).alloc (Nat.le_refl _) _).alloc (by simp) _) (Nat.le_refl _))
  · have Hin := Lib.hid hin
    by_cases hn : n < 0
    · have hd0 : decide (n < 0) = true := decide_eq_true hn
      clear hin hA hS
      go_enter Try.func23, Try.ntmps23
      go_wp2_with (first
        | (refine buildZ rfl rfl ?_; rw [← Hzs.out])
        | (refine wpList_store_mid rfl _ _ _ rfl w.heap.size 0 zs rfl rfl (by rw [Hzz.out]; exact there_new w _ _ 64 (by rw [Hzz.out]; exact Nat.le_refl _)) (by rw [Hzz.out]; kernel_rfl) (by rw [Hzs.out]; exact all_oneCell_toArray (bvs_one _)) ?_))
      have hld : (loadVar 28 ⟨w.heap.size, 0, none⟩).run Try.prog ((w.alloc (.cells zs 28)).setCells w.heap.size 0 zs.toList) = .ok (.agg zs.toList.toArray) ((w.alloc (.cells zs 28)).setCells w.heap.size 0 zs.toList) :=
        run_loadVar_mid _ _ _ _ zs.toList _ (World.rangeAt_setCells_same _ _ _ _ (by rw [Array.length_toList, Hzz.out]; exact there_new w _ _ 64 (by rw [Hzz.out]; exact Nat.le_refl _))) Try.underlying28 rfl (by rw [Array.length_toList, Hzz.out]; kernel_rfl)
      refine bodyPost_ret (v := .tuple #[.agg zs.toList.toArray, .int .i64 1]) (by simp [results, Try.results23, asAddr, hld]) rfl ?_
      exact ReadPost.mk (by unfold DS.read; rw [if_neg Hin.out]) (by rw [Hzs.out]) (below_setCells _ _ _ ((Below.refl _ _).alloc (Nat.le_refl _) _) (Nat.le_refl _))
    · have hd0 : decide (n < 0) = false := decide_eq_false hn
      have hd1 : decide ((s.secs.length : Int) ≤ n) = true := decide_eq_true (by omega)
      clear hin hA hS
      go_enter Try.func23, Try.ntmps23
      go_wp2_with (first
        | (refine buildZ rfl rfl ?_; rw [← Hzs.out])
        | (refine wpList_store_mid rfl _ _ _ rfl w.heap.size 0 zs rfl rfl (by rw [Hzz.out]; exact there_new w _ _ 64 (by rw [Hzz.out]; exact Nat.le_refl _)) (by rw [Hzz.out]; kernel_rfl) (by rw [Hzs.out]; exact all_oneCell_toArray (bvs_one _)) ?_))
      have hld : (loadVar 28 ⟨w.heap.size, 0, none⟩).run Try.prog ((w.alloc (.cells zs 28)).setCells w.heap.size 0 zs.toList) = .ok (.agg zs.toList.toArray) ((w.alloc (.cells zs 28)).setCells w.heap.size 0 zs.toList) :=
        run_loadVar_mid _ _ _ _ zs.toList _ (World.rangeAt_setCells_same _ _ _ _ (by rw [Array.length_toList, Hzz.out]; exact there_new w _ _ 64 (by rw [Hzz.out]; exact Nat.le_refl _))) Try.underlying28 rfl (by rw [Array.length_toList, Hzz.out]; kernel_rfl)
      refine bodyPost_ret (v := .tuple #[.agg zs.toList.toArray, .int .i64 1]) (by simp [results, Try.results23, asAddr, hld]) rfl ?_
      exact ReadPost.mk (by unfold DS.read; rw [if_neg Hin.out]) (by rw [Hzs.out]) (below_setCells _ _ _ ((Below.refl _ _).alloc (Nat.le_refl _) _) (Nat.le_refl _))
end Go.Proofs.Ytdggibigfocadaa
