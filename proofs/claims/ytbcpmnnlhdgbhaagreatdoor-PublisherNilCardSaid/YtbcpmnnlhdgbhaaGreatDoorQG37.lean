/- The texts W10 U2 U3 U4 SK PB0 EqP EqK of this work, merged by wip/merge.py. No conditions. -/
import Derived.Test.YtbcpmnnlhdgbhaaGreatDoorQG25
import Derived.Test.YtbcpmnnlhdgbhaaGreatDoorQG36
import Derived.Lib.ConvBytes
import Derived.MapKept
import Derived.WideMake
import Derived.Test.YtbcpmnnlhdgbhaaGreatDoorQG29
import Derived.Laws.IdiomRangeMap
import Derived.Test.YtbcpmnnlhdgbhaaGreatDoorQG01
import Derived.Test.YtbcpmnnlhdgbhaaGreatDoorQG23
import Derived.Test.YtbcpmnnlhdgbhaaGreatDoorQG28
import Derived.Laws.StructEq
import Derived.Test.YtbcpmnnlhdgbhaaGreatDoorQG31
namespace Go.Proofs.YtbcpmnnlhdgbhaaGreatDoor
open Go.RowKit

structure MutV (wz wr : World) (base mid_ : Nat) (x : Value) (N : Nat) (f : Nat → Nat) (vs : List Value) : Prop where
  row : wr.ownsRow base 96 1 x N vs
  each : ∀ i, i < N → ∃ u l, vs[i]? = some u ∧ Own8 wr base u l ∧ l.length = f i ∧ (u.ownBlock = none ∨ u.ownBlock ≠ x.ownBlock) ∧ ∀ k, u.ownBlock = some k → k < mid_ ∨ wz.heap.size ≤ k
  apart : ∀ (i j : Nat) (u u' : Value), i < j → vs[i]? = some u → vs[j]? = some u' → u.ownBlock = none ∨ u.ownBlock ≠ u'.ownBlock
  xin : ∀ k, x.ownBlock = some k → k < mid_
  bel : Below base wz wr
  mid : ∀ k, mid_ ≤ k → k < wz.heap.size → wr.heap[k]? = wz.heap[k]?
  le : base ≤ wz.heap.size
variable {wz wr w' : World} {base mid_ N i : Nat} {x u u' : Value} {f : Nat → Nat} {vs : List Value}

theorem MutV.apart' (h : MutV wz wr base mid_ x N f vs) {i j : Nat} {u u' : Value} (hij : i ≠ j) (hu : vs[i]? = some u) (hu' : vs[j]? = some u') : u.ownBlock = none ∨ u.ownBlock ≠ u'.ownBlock := by
  rcases Nat.lt_or_gt_of_ne hij with hlt | hlt
  · exact h.apart i j u u' hlt hu hu'
  · rcases h.apart j i u' u hlt hu' hu with h1 | h1
    · rw [h1]; cases u.ownBlock <;> simp
    · exact .inr (Ne.symm h1)
theorem MutV.leN (h : MutV wz wr base mid_ x N f vs) : base ≤ wr.heap.size := Nat.le_trans h.le h.bel.size
theorem MutV.keep (h : MutV wz wr base mid_ x N f vs) (hi : i < N) (hu : vs[i]? = some u) (hg : wr.grownBy w' u.ownBlock) :
    w'.ownsRow base 96 1 x N vs ∧ (∀ j, j < N → j ≠ i → ∃ u l, vs[j]? = some u ∧ Own8 w' base u l ∧ l.length = f j ∧ (u.ownBlock = none ∨ u.ownBlock ≠ x.ownBlock) ∧ ∀ k, u.ownBlock = some k → k < mid_ ∨ wz.heap.size ≤ k) ∧
    Below base wz w' ∧ ∀ k, mid_ ≤ k → k < wz.heap.size → w'.heap[k]? = wz.heap[k]? := by
  obtain ⟨y, l, hy, hown, hlen, hne, hloc⟩ := h.each i hi
  rw [hu] at hy
  cases hy
  refine ⟨World.ownsRow.kept h.row hg ?_, fun j hj hji => ?_, h.bel.grown hg h.leN (fun k hk => (own8_lt hown k hk).1), fun k h1 h2 => ?_⟩
  · rcases hne with h1 | h1
    · rw [h1]; cases x.ownBlock <;> simp
    · exact .inr (Ne.symm h1)
  · obtain ⟨z, m, hz, hownz, hlz, hnz, hlocz⟩ := h.each j hj
    exact ⟨z, m, hz, own8_keep hownz hg (h.apart' hji hz hu), hlz, hnz, hlocz⟩
  · rw [hg.block k (Nat.lt_of_lt_of_le h2 h.bel.size) (fun e => ?_)]
    · exact h.mid k h1 h2
    · rcases hloc k e.symm with h3 | h3 <;> omega
/-- The element's own bytes are turned; its length is not. -/
theorem MutV.same (h : MutV wz wr base mid_ x N f vs) (hi : i < N) (hu : vs[i]? = some u) (hg : wr.grownBy w' u.ownBlock) {l : List UInt8} (hown' : Own8 w' base u l) (hl : l.length = f i) : MutV wz w' base mid_ x N f vs := by
  obtain ⟨y, m, hy, hown, hlen, hne, hloc⟩ := h.each i hi
  rw [hu] at hy
  cases hy
  obtain ⟨k1, k2, k3, k4⟩ := h.keep hi hu hg
  refine ⟨k1, fun j hj => ?_, h.apart, h.xin, k3, k4, h.le⟩
  by_cases hji : j = i
  · subst hji; exact ⟨u, l, hu, hown', hl, hne, hloc⟩
  · exact k2 j hj hji
theorem row_slice {w : World} {base n : Nat} {vs : List Value} {e : TypeId} {x : Value} (h : w.ownsRow base e 1 x n vs) (hn : 0 < n) : ∃ g cap, x = .slice (some ⟨g, 0, none⟩) n cap ∧ base ≤ g ∧ g < w.heap.size ∧ n ≤ cap := by
  obtain ⟨_, ⟨_, h'⟩ | ⟨g', cap', cur, h', hb, hg, hc, _⟩⟩ := h
  · omega
  · exact ⟨g', cap', h', hb, (Array.getElem?_eq_some_iff.1 hg).1, hc⟩
/-- The element is replaced. -/
theorem MutV.put {gx cx : Nat} (h : MutV wz wr base mid_ (.slice (some ⟨gx, 0, none⟩) N cx) N f vs) (hi : i < N) (hu : vs[i]? = some u) (hg : wr.grownBy w' u.ownBlock) {l' : List UInt8} (hown' : Own8 w' base u' l')
    (hb' : u'.ownBlock = u.ownBlock ∨ ∃ k, u'.ownBlock = some k ∧ wr.heap.size ≤ k) {f' : Nat → Nat} (hf : f' i = l'.length) (hf' : ∀ j, j ≠ i → f' j = f j) :
    MutV wz (w'.setCell ⟨gx, i, none⟩ u') base mid_ (.slice (some ⟨gx, 0, none⟩) N cx) N f' (vs.set i u') := by
  obtain ⟨y, m, hy, hown, hlen, hne, hloc⟩ := h.each i hi
  rw [hu] at hy
  cases hy
  obtain ⟨k1, k2, k3, k4⟩ := h.keep hi hu hg
  obtain ⟨s1, s2⟩ := World.ownsRow.stored k1 i u'
  have hxb : ∀ k, (Value.slice (some ⟨gx, 0, none⟩) N cx).ownBlock = some k → k < wr.heap.size ∧ base ≤ k := fun k hk => ⟨(World.ownsRow.lt h.row k hk).2, (World.ownsRow.lt h.row k hk).1⟩
  have hgx := hxb gx rfl
  have hvl : i < vs.length := (List.getElem?_eq_some_iff.1 hu).1
  have hne' : u'.ownBlock = none ∨ u'.ownBlock ≠ some gx := by
    rcases hb' with e | ⟨k, e, hk⟩
    · rw [e]; exact hne
    · rw [e]; exact .inr fun e => by cases e; omega
  refine ⟨s1, fun j hj => ?_, fun p q y y' hpq hy hy' => ?_, h.xin, k3.grown s2 (Nat.le_trans h.le k3.size) (fun k hk => by cases hk; exact hgx.2), fun k h1 h2 => ?_, h.le⟩
  · by_cases hji : j = i
    · subst hji
      refine ⟨u', l', by simp [hvl], own8_keep hown' s2 hne', hf.symm, hne', fun k hk => ?_⟩
      rcases hb' with e | ⟨k', e, hk'⟩
      · exact hloc k (e ▸ hk)
      · rw [e] at hk; cases hk
        exact .inr (Nat.le_trans h.bel.size hk')
    · obtain ⟨z, m, hz, hownz, hlz, hnz, hlocz⟩ := k2 j hj hji
      exact ⟨z, m, by rw [List.getElem?_set_ne (Ne.symm hji)]; exact hz, own8_keep hownz s2 hnz, by rw [hf' j hji]; exact hlz, hnz, hlocz⟩
  · have hold : ∀ {p : Nat} {y : Value}, p ≠ i → vs[p]? = some y → (y.ownBlock = none ∨ y.ownBlock ≠ u'.ownBlock) := fun {p y} hp hy => by
      rcases hb' with e | ⟨k, e, hk⟩
      · rw [e]; exact h.apart' hp hy hu
      · cases hyb : y.ownBlock with
        | none => exact .inl rfl
        | some k0 =>
          have hpN : p < N := by
            have h1 := (List.getElem?_eq_some_iff.1 hy).1
            have h2 := h.row.1
            omega
          obtain ⟨z, _, hz, hownz, _⟩ := h.each p hpN
          rw [hy] at hz; cases hz
          have := (own8_lt hownz k0 hyb).2
          rw [e]
          exact .inr fun e => by cases e; omega
    by_cases hp : p = i
    · subst hp
      have hq : q ≠ p := by omega
      rw [List.getElem?_set_ne (Ne.symm hq)] at hy'
      have hy0 : y = u' := by
        have := List.getElem?_set_self (l := vs) (a := u') hvl
        rw [this] at hy; cases hy; rfl
      subst hy0
      rcases hold hq hy' with h1 | h1
      · rw [h1]; cases y.ownBlock <;> simp
      · exact .inr (Ne.symm h1)
    · rw [List.getElem?_set_ne (Ne.symm hp)] at hy
      by_cases hq : q = i
      · subst hq
        have hy0 : y' = u' := by
          have := List.getElem?_set_self (l := vs) (a := u') hvl
          rw [this] at hy'; cases hy'; rfl
        subst hy0
        exact hold hp hy
      · rw [List.getElem?_set_ne (Ne.symm hq)] at hy'
        exact h.apart p q y y' hpq hy hy'
  · rw [s2.block k (Nat.lt_of_lt_of_le h2 k3.size) (fun e => by cases e; have := h.xin gx rfl; omega)]
    exact k4 k h1 h2
/-- The start. -/
theorem MutV.start {wx : World} {ls : List (List UInt8)} (h : OwnL wx base x ls) (hwx : wx.heap.size = mid_) (hb : Below wx.heap.size wx wz) (hle : base ≤ wx.heap.size) : ∃ vs, MutV wz wz base mid_ x ls.length (fun i => (ls.getD i []).length) vs := by
  have hblk : ∀ i (u : Value) vs, OwnLL wx base x ls vs → i < ls.length → vs[i]? = some u → ∀ k, u.ownBlock = some k → k < mid_ := fun i u vs hL hi hu k hk => by
    obtain ⟨y, hy, ho, _⟩ := hL.each i hi
    rw [hu] at hy; cases hy
    have := (own8_lt ho k hk).2
    omega
  obtain ⟨vs, hL⟩ := h
  refine ⟨vs, World.ownsRow.kept hL.row (grown_of_below hb none) (by cases x.ownBlock <;> simp), fun i hi => ?_, hL.apart, fun k hk => hwx ▸ (World.ownsRow.lt hL.row k hk).2, Below.refl _ _, fun _ _ _ => rfl, Nat.le_trans hle hb.size⟩
  obtain ⟨u, hu, ho, hne⟩ := hL.each i hi
  refine ⟨u, ls[i], hu, own8_below ho hb, by simp [List.getD, hi], hne, fun k hk => .inl (hblk i u vs hL hi hu k hk)⟩
end Go.Proofs.YtbcpmnnlhdgbhaaGreatDoor

namespace Go.Proofs.YtbcpmnnlhdgbhaaGreatDoor
open Go.RowKit
def one4 : List UInt8 := [43, 9, 113, 0, 0, 0, 0, 0, 0, 0, 0, 0, 0, 0, 3, 0, 0, 0, 5, 98, 97, 116, 99, 104, 0, 0, 0, 1, 97, 0, 0, 0, 0]
theorem bytes_bel (w : World) (l : List UInt8) : Below w.heap.size w (Lib.bytesWorld w 5 ⟨l.toArray⟩) := by
  refine ⟨?_, ?_, ?_, by rw [Lib.bytesWorld_size]; omega, fun k hk => Lib.bytesWorld_at_old w _ _ k hk⟩
  all_goals (unfold Lib.bytesWorld World.freeze; rw [if_neg (by decide)]; rfl)
theorem bytes_reads (w : World) (l : List UInt8) (n : Nat) (hn : l.length = n) : Reads (Lib.bytesWorld w 5 ⟨l.toArray⟩) (w.heap.size + 1) 1 (some ⟨w.heap.size, 0, none⟩) n (bvs l) := by
  subst hn
  have hn : (ByteArray.mk l.toArray).size = l.length := by simp [ByteArray.size]
  refine ⟨by simp [bvs_length], fun _ => ⟨_, rfl, by simp, fun j u hu => ?_⟩⟩
  have hj : j < l.length := by
    have := (List.getElem?_eq_some_iff.1 hu).1
    simpa [bvs_length] using this
  have hadd : (⟨w.heap.size, 0, none⟩ : Addr).add j = ⟨w.heap.size, j, none⟩ := by unfold Addr.add; split <;> simp_all
  rw [hadd, Lib.bytesWorld_cell w _ _ j (by rw [hn]; exact hj)]
  simp [bvs, hj] at hu
  simp [hj, ← hu, bv]
theorem conv4 (w : World) : (convert 9 96 (.string (({ data := #[43] } : ByteArray) ++ Utf8.encode 9 ++ { data := #[113, 0, 0, 0, 0, 0, 0, 0, 0] } ++ { data := #[0, 0, 0, 3, 0, 0, 0, 5, 98, 97, 116, 99, 104, 0, 0, 0, 1, 97, 0, 0, 0, 0] }))).run Tryz.prog w = .ok (.slice (some ⟨w.heap.size, 0, none⟩) 33 (grownCap w 33 0 5)) (Lib.bytesWorld w 5 ⟨one4.toArray⟩) := by
  have e : (({ data := #[43] } : ByteArray) ++ Utf8.encode 9 ++ { data := #[113, 0, 0, 0, 0, 0, 0, 0, 0] } ++ { data := #[0, 0, 0, 3, 0, 0, 0, 5, 98, 97, 116, 99, 104, 0, 0, 0, 1, 97, 0, 0, 0, 0] }) = ⟨one4.toArray⟩ := by decide +kernel
  rw [e]
  exact Lib.run_convert_string_bytes w _ _ _ _ Tryz.underlying9 Tryz.underlying96 Tryz.underlying5
theorem cap4 (w : World) : 33 ≤ grownCap w 33 0 5 := by
  exact grownCap_ge w 33 0 5
/-- The list of the one record, behind its statement. -/
def ListI (w wr : World) (s : Value) (k : Nat) : Prop := Below w.heap.size w wr ∧ (k = 0 → s = .slice none 0 0) ∧ (k = 1 → ∃ A c, s = .slice A 1 c ∧ Lists wr wr.heap.size A [one4])
theorem sz_le (wr : World) (o o2 : Obj) : wr.heap.size ≤ ((Lib.bytesWorld (wr.alloc o) 5 ⟨one4.toArray⟩).alloc o2).heap.size := by
  have h3 := Lib.bytesWorld_size (wr.alloc o) 5 ⟨one4.toArray⟩
  have h4 : (wr.alloc o).heap.size = wr.heap.size + 1 := by simp
  have h5 : ((Lib.bytesWorld (wr.alloc o) 5 ⟨one4.toArray⟩).alloc o2).heap.size = (Lib.bytesWorld (wr.alloc o) 5 ⟨one4.toArray⟩).heap.size + 1 := by simp
  omega
theorem list_one (w wr w5 : World) (o o2 : Obj) (v5 : Value) (c : Nat) (hW : Below w.heap.size w wr) (hc : 33 ≤ c) (ho : w5.ownsRow wr.heap.size 96 1 v5 (0 + 1) ([] ++ [.slice (some ⟨wr.heap.size + 1, 0, none⟩) 33 c])) (hg : ((Lib.bytesWorld (wr.alloc o) 5 ⟨one4.toArray⟩).alloc o2).grownBy w5 none) : ListI w w5 v5 1 := by
  have hsz : (wr.alloc o).heap.size = wr.heap.size + 1 := by simp
  have hA : Below wr.heap.size wr (wr.alloc o) := (Below.refl _ _).alloc (Nat.le_refl _) _
  obtain ⟨B, hB⟩ : ∃ B, Lib.bytesWorld (wr.alloc o) 5 ⟨one4.toArray⟩ = B := ⟨_, rfl⟩
  have h1 := bytes_bel (wr.alloc o) one4
  have h2 := bytes_reads (wr.alloc o) one4 33 rfl
  have h3 := Lib.bytesWorld_size (wr.alloc o) 5 ⟨one4.toArray⟩
  rw [hB] at h1 h2 h3 hg
  rw [← h3, hsz] at h2
  have hC : Below B.heap.size B w5 := ((Below.refl _ _).alloc (Nat.le_refl _) o2).grown hg (by simp) (fun k hk => by cases hk)
  have hr := (h2.below hC).more hC.size
  have hx : Below wr.heap.size wr w5 := hA.trans ((h1.trans (hC.mono h1.size)).mono hA.size)
  refine ⟨hW.trans (hx.mono hW.size), fun h => (by cases h), fun _ => ?_⟩
  obtain ⟨g, cap, rfl, _, _, _⟩ := row_slice ho (by omega)
  refine ⟨_, cap, rfl, [.slice (some ⟨wr.heap.size + 1, 0, none⟩) 33 c], Reads.of_own ho, fun i hi => ?_⟩
  have hi' : i < 1 := hi
  obtain rfl : i = 0 := by omega
  exact ⟨_, c, rfl, hc, hr⟩
set_option maxRecDepth 100000 in
set_option maxHeartbeats 1000000 in
theorem record_kv (b : Nat) (w : World) (hb : BatchAt w b) : Calls Tryz.prog 53 #[.slice (some ⟨b, 0, none⟩) 1 1] w fun e w' => ∃ v, e = .returned v ∧ Own8 w' w.heap.size v (encB [one4]) ∧ Below w.heap.size w w' := by
  have HB := Lib.hid hb
  clear hb
  go_enter Tryz.func53, Tryz.ntmps53
  go_wp2
  go_loopw [3, 11] (fun s i wr => ∃ k : Nat, k ≤ 1 ∧ i = .int .i64 (k : Int) ∧ Hid (ListI w wr s k)) (fun _ i _ => 1 - (intOf i).toNat)
  case atStart => exact ⟨0, Nat.zero_le _, rfl, Below.refl _ _, fun _ => rfl, fun h => by cases h⟩
  case round =>
    obtain ⟨k, hk, rfl, hW⟩ := hrel
    by_cases hlt : k < 1
    · have hlt' : (k : Int) < 1 := by omega
      obtain rfl : k = 0 := by omega
      have HBW := Lib.hid (HB.out.bel hW.out.1)
      obtain ⟨c0, c1, c2⟩ := HBW.out.cells
      have hu3 := hW.out.2.1 rfl
      subst hu3
      have hcv := conv4
      go_wp2_with (first
        | (at_builtin; go_must (refine appW rfl rfl rfl rfl (World.ownsRow_nil _ wr.heap.size _ _) (reads_one _ _) (by simp [Value.oneCell']) (by omega) ?_ ?_; rotate_left; intro v5 w5 ho5 hg5 hv5; have H5 := Lib.hid (And.intro ho5 hg5); clear ho5 hg5 hv5)))
      case refine_1 => exact sz_le _ _ _
      refine ⟨⟨1, by omega, by go_num, list_one w wr w5 _ _ v5 _ hW.out.1 (cap4 _) H5.out.1 H5.out.2⟩, by simp [intOf]⟩
    · obtain rfl : k = 1 := by omega
      obtain ⟨A, c, rfl, hls⟩ := hW.out.2.2 rfl
      have HLS := Lib.hid hls
      clear hls
      go_wp2_with (first
        | (go_at_call 28; go_must (refine (Encode_any A c [one4] _ HLS.out (by simp)).mono ?_; rintro e w5 ⟨v5, rfl, ho5, hb5⟩; have H5 := Lib.hid (And.intro ho5 hb5); clear ho5 hb5)))
      go_ret
      exact ⟨_, rfl, ownsRow_low H5.out.1 hW.out.1.size, hW.out.1.trans (H5.out.2.mono hW.out.1.size)⟩
end Go.Proofs.YtbcpmnnlhdgbhaaGreatDoor

namespace Go.Proofs.YtbcpmnnlhdgbhaaGreatDoor
open Go.RowKit
/-- The table's only entry. -/
def ent : MapEntry := ⟨.string ⟨#[113, 0, 0, 0, 0, 0, 0, 0, 0]⟩, .string ⟨#[0, 0, 0, 3, 0, 0, 0, 5, 98, 97, 116, 99, 104, 0, 0, 0, 1, 97, 0, 0, 0, 0]⟩, 0⟩
theorem upd1 {w : World} {m : Nat} (hb : w.heap[m]? = some (.map #[] 0)) : (Instr.mapUpdate 123 (.map (some m)) (.string ⟨#[113, 0, 0, 0, 0, 0, 0, 0, 0]⟩) (.string ⟨#[0, 0, 0, 3, 0, 0, 0, 5, 98, 97, 116, 99, 104, 0, 0, 0, 1, 97, 0, 0, 0, 0]⟩)).run Tryz.prog w = .ok () { w with heap := w.heap.setIfInBounds m (.map #[ent] 1) } := by
  have hk : Go.MapKept.IsKey .string (.string ⟨#[113, 0, 0, 0, 0, 0, 0, 0, 0]⟩) := trivial
  have h1 : Instr.findNow .string (.string ⟨#[113, 0, 0, 0, 0, 0, 0, 0, 0]⟩) [] 0 = some none := rfl
  simp [Instr.mapUpdate, run_underlying Tryz.underlying123, MapKept.run_getObj_map hb, MapKept.run_checkKey Tryz.underlying9 hk, MapKept.run_findKey Tryz.underlying9 h1, MapKept.run_setObj_map _ hb, Result.andThen, ent]
/-- The store in memory. -/
def StoreAt (w : World) (gs gl m : Nat) : Prop := w.heap[gs]? = some (.cells #[.pointer (some ⟨gl, 0, none⟩), .map (some m)] 125 (0, 0))
theorem StoreAt.cells {w : World} {gs gl m : Nat} (h : StoreAt w gs gl m) : w.cell? ⟨gs, 0, none⟩ = some (.pointer (some ⟨gl, 0, none⟩)) ∧ w.cell? ⟨gs, 1, none⟩ = some (.map (some m)) :=
  ⟨cell_of_row _ _ _ _ _ _ h, cell_of_row _ _ _ _ _ _ h⟩
set_option maxRecDepth 100000 in
set_option maxHeartbeats 1000000 in
theorem apply_kv (b m : Nat) (w : World) (hb : BatchAt w b) (hm : w.heap[m]? = some (.map #[] 0)) : Calls Tryz.prog 54 #[.map (some m), .slice (some ⟨b, 0, none⟩) 1 1] w fun e w' => e = .returned (.tuple #[]) ∧ w'.heap[m]? = some (.map #[ent] 1) ∧ Turns (fun k => k = m) w w' := by
  have HB := Lib.hid hb
  have hne : b ≠ m := by rintro rfl; rw [hb] at hm; cases hm
  have HM := Lib.hid hm
  have HNE := Lib.hid hne
  clear hb hm hne
  go_enter Tryz.func54, Tryz.ntmps54
  go_wp2
  go_loopw [8] (fun i wr => ∃ k : Nat, k ≤ 1 ∧ i = .int .i64 (k : Int) ∧ Hid (Turns (fun j => j = m) w wr ∧ (k = 0 → wr.heap[m]? = some (.map #[] 0)) ∧ (k = 1 → wr.heap[m]? = some (.map #[ent] 1)))) (fun i _ => 1 - (intOf i).toNat)
  case atStart => exact ⟨0, Nat.zero_le _, rfl, Turns.refl _ _, fun _ => HM.out, fun h => by cases h⟩
  case round =>
    obtain ⟨k, hk, rfl, hW⟩ := hrel
    by_cases hlt : k < 1
    · have hlt' : (k : Int) < 1 := by omega
      obtain rfl : k = 0 := by omega
      have HBW : Hid (BatchAt wr b) := (hW.out.1.block b (by have h_ := HB.out; exact held_lt h_) HNE.out).trans HB.out
      obtain ⟨c0, c1, c2⟩ := HBW.out.cells
      have hup := fun (o : Obj) => upd1 (w := wr.alloc o) (m := m) (((Below.refl _ _).alloc (Nat.le_refl _) o).block m (held_lt (hW.out.2.1 rfl)) |>.trans (hW.out.2.1 rfl))
      go_wp2
      go_roundw
      case rel =>
        refine ⟨1, by omega, by go_num, ?_⟩
        have h1 := hW.out.1
        have hlt : m < wr.heap.size := held_lt (hW.out.2.1 rfl)
        refine ⟨⟨h1.os, h1.tape, h1.output, ?_, fun j hj hjm => ?_⟩, fun h => absurd h (by decide), fun _ => ?_⟩
        · have := h1.size; simp; omega
        · have h2 := h1.size
          refine Eq.trans ?_ (h1.block j hj hjm)
          rw [Array.getElem?_setIfInBounds_ne (fun e => hjm e.symm)]
          exact ((Below.refl _ _).alloc (Nat.le_refl _) _).block j (Nat.lt_of_lt_of_le hj h2)
        · rw [Array.getElem?_setIfInBounds_self_of_lt (by simp; omega)]
      case measure => simp [intOf]
    · obtain rfl : k = 1 := by omega
      go_wp2
      first
        | go_end0
        | (refine bodyPost_ret (results_none rfl _ _ _) rfl ?_)
      exact ⟨rfl, hW.out.2.2 trivial, hW.out.1⟩
end Go.Proofs.YtbcpmnnlhdgbhaaGreatDoor

namespace Go.Proofs.YtbcpmnnlhdgbhaaGreatDoor
open Go.RowKit
def OpenS (base : Nat) (od : Nat → Prop) (gd : Nat) (s : DS) (w : World) (e : Ending) (w' : World) : Prop :=
  ∃ gs gl m own, e = .returned (.tuple #[.pointer (some ⟨gs, 0, none⟩), .int .i64 0]) ∧ LG w' base own gd gl s ((1 : Nat) : Int) [] ∧ StoreAt w' gs gl m ∧ w'.heap[m]? = some (.map #[] 0) ∧ Below w.heap.size w w' ∧ w.heap.size ≤ gs ∧ w.heap.size ≤ m ∧ gs ≠ m ∧ ¬ own gs ∧ ¬ own m ∧ ∀ k, own k → od k ∨ w.heap.size ≤ k
theorem buildStore (gl m : Nat) : Tryz.prog.built 125 [(0, .pointer (some ⟨gl, 0, none⟩)), (1, .map (some m))] = some #[.pointer (some ⟨gl, 0, none⟩), .map (some m)] := by kernel_rfl
set_option maxRecDepth 100000 in
set_option maxHeartbeats 1000000 in
theorem OpenS_any {w : World} {base gd : Nat} {od : Nat → Prop} {N : Nat} {S P : Value} (h : Dsk w base od gd (dst (List.replicate N zero64) false 0) S P) (hb : base ≤ w.heap.size) (K : List Int) (hN : 64 ≤ N) (hkt : KT w K) :
    Calls Tryz.prog 41 #[.pointer (some ⟨gd, 0, none⟩)] w (OpenS base od gd (dst (List.replicate N zero64) false 0) w) := by
  have H := Lib.hid h
  have HN := Lib.hid hN
  have HBs := Lib.hid hb
  have HK := Lib.hid hkt
  have hbs := buildStore
  have hmk := fun w => run_makeMap (P := Tryz.prog) 123 w
  clear h hb hN hkt
  go_enter Tryz.func41, Tryz.ntmps41
  go_wp2_with (first
    | (go_at_call 77; go_must (refine (Open_any H.out HBs.out K 1 [] (Lay.fresh K N (by have := HN.out; omega)) (by simp) (by simp; exact HN.out) (by simp) HK.out).mono ?_; rintro e w1 ⟨gl, own, rfl, hL, hb1, ho⟩; have H1 := Lib.hid (And.intro hL (And.intro hb1 ho)); clear hL hb1 ho))
    | (go_at_call 78; go_must (refine (Records_any (H1.out.1.below (((Below.refl _ _).alloc (Nat.le_refl _) (.map #[] 0)).alloc (by simp) (.cells #[.pointer (some ⟨gl, 0, none⟩), .map (some w1.heap.size)] 125))) (by simp) (by simp)).mono ?_; rintro e w3 ⟨v3, rfl, hv3, hb3⟩; obtain ⟨A3, c3, rfl, _, _⟩ := hv3.lists; rw [List.length_nil]; have H3 := Lib.hid hb3; clear hv3 hb3)))
  go_loopw [24] (fun i wr => i = .int .i64 0 ∧ Hid (wr = w3)) (fun _ _ => 0)
  case atStart => exact ⟨rfl, rfl⟩
  obtain ⟨rfl, hwr⟩ := hrel
  have hwr' := hwr.out
  subst hwr'
  go_wp2
  go_ret2
  have hA : Below w1.heap.size w1 (w1.alloc (.map #[] 0)) := (Below.refl _ _).alloc (Nat.le_refl _) _
  have hsz : (w1.alloc (.map #[] 0)).heap.size = w1.heap.size + 1 := by simp
  have hm : (w1.alloc (.map #[] 0)).heap[w1.heap.size]? = some (.map #[] 0) := heap_alloc_new w1 _
  obtain ⟨W1, hW1⟩ : ∃ x, w1.alloc (.map #[] 0) = x := ⟨_, rfl⟩
  have h3 := H3.out
  rw [hW1] at hA hsz hm h3
  have hB : Below W1.heap.size W1 (W1.alloc (.cells #[.pointer (some ⟨gl, 0, none⟩), .map (some w1.heap.size)] 125)) := (Below.refl _ _).alloc (Nat.le_refl _) _
  have hs : (W1.alloc (.cells #[.pointer (some ⟨gl, 0, none⟩), .map (some w1.heap.size)] 125)).heap[W1.heap.size]? = some (.cells #[.pointer (some ⟨gl, 0, none⟩), .map (some w1.heap.size)] 125 (0, 0)) := heap_alloc_new W1 _
  have hsz2 : (W1.alloc (.cells #[.pointer (some ⟨gl, 0, none⟩), .map (some w1.heap.size)] 125)).heap.size = W1.heap.size + 1 := by simp
  obtain ⟨W2, hW2⟩ : ∃ x, W1.alloc (.cells #[.pointer (some ⟨gl, 0, none⟩), .map (some w1.heap.size)] 125) = x := ⟨_, rfl⟩
  rw [hW2] at hB hs hsz2 h3
  have h12 : Below w1.heap.size w1 wr := hA.trans ((hB.trans (h3.mono hB.size)).mono hA.size)
  have h1 := H1.out.2.1.size
  refine ⟨w1.heap.size + 1, gl, w1.heap.size, own, rfl, H1.out.1.below h12, ?_, ?_, H1.out.2.1.trans (h12.mono h1), by omega, h1, by omega, fun e => ?_, fun e => ?_, H1.out.2.2⟩
  · show wr.heap[w1.heap.size + 1]? = _
    rw [← hsz]
    exact (h3.block _ (by omega)).trans hs
  · exact (h3.block _ (by omega)).trans ((hB.block _ (by omega)).trans hm)
  · have := H1.out.1.lt e; omega
  · have := H1.out.1.lt e; omega
end Go.Proofs.YtbcpmnnlhdgbhaaGreatDoor

namespace Go.Proofs.YtbcpmnnlhdgbhaaGreatDoor
open Go.RowKit Go.Lib
theorem next_none (w : World) (ty : TypeId) (m : Nat) (hb : w.heap[m]? = some (.map #[] 0)) : (Instr.next (.pointer (some ⟨w.heap.size, 0, none⟩)) false ty).run Tryz.prog (w.alloc (.mapIter (some m) 0 #[] 0)) = .ok (.tuple #[.bool false]) (w.alloc (.mapIter (some m) 0 #[] 0)) := by
  rcases run_next_map (P := Tryz.prog) w ty m 0 0 #[] #[] 0 hb (by simp) (Nat.le_refl _) with ⟨_, h⟩ | ⟨e, he, _⟩
  · exact h
  · simp [leftOf] at he
set_option maxRecDepth 100000 in
set_option maxHeartbeats 1000000 in
theorem Keys_none (gs gl m : Nat) (a b : ByteArray) (w : World) (hs : StoreAt w gs gl m) (hb : w.heap[m]? = some (.map #[] 0)) : Calls Tryz.prog 43 #[.pointer (some ⟨gs, 0, none⟩), .string a, .string b] w fun e w' => e = .returned (.slice none 0 0) ∧ Below w.heap.size w w' := by
  obtain ⟨c0, c1⟩ := hs.cells
  have hrg := run_range_map (P := Tryz.prog) w 123 9 9 m #[] 0 Tryz.underlying123 hb
  have hnx := fun ty => next_none w ty m hb
  have hal : Below w.heap.size w (w.alloc (.mapIter (some m) 0 #[] 0)) := (Below.refl _ _).alloc (Nat.le_refl _) _
  go_enter Tryz.func43, Tryz.ntmps43
  go_wp2
  go_loopw [7] (fun o wr => o = .slice none 0 0 ∧ wr = w.alloc (.mapIter (some m) 0 #[] 0)) (fun _ _ => 0)
  case atStart => exact ⟨rfl, rfl⟩
  case round =>
    obtain ⟨rfl, rfl⟩ := hrel
    go_wp2_with (go_at_call 82; refine (strings0 none 0 _).mono ?_; rintro e w5 ⟨rfl, hw_⟩; have hw_ := hw_.symm; subst hw_)
    go_ret
    exact ⟨rfl, hal⟩
end Go.Proofs.YtbcpmnnlhdgbhaaGreatDoor

namespace Go.Proofs.YtbcpmnnlhdgbhaaGreatDoor
open Go.RowKit Go.Lib
set_option maxRecDepth 100000 in
set_option maxHeartbeats 1000000 in
theorem Joined_none (w : World) : Calls Tryz.prog 57 #[.slice none 0 0] w fun e w' => e = .returned (.slice none 0 0) ∧ w' = w := by
  go_enter Tryz.func57, Tryz.ntmps57
  go_wp2
  go_loopw [3, 8] (fun v i wr => v = .slice none 0 0 ∧ i = .int .i64 0 ∧ Hid (wr = w)) (fun _ _ _ => 0)
  case atStart => exact ⟨rfl, rfl, rfl⟩
  case round =>
    obtain ⟨rfl, rfl, hW⟩ := hrel
    go_wp2
    go_ret
    exact ⟨rfl, hW.out⟩
set_option maxRecDepth 100000 in
set_option maxHeartbeats 1000000 in
theorem CloneD_none (w : World) : Calls Tryz.prog 21 #[.slice none 0 0] w fun e w' => e = .returned (.slice none 0 0) ∧ w' = w := by
  have heq := fun (w : World) => Lib.run_eql_slice_nil (P := Tryz.prog) w 27 31 none 0 0 0 0 Tryz.underlying27
  go_enter Tryz.func21, Tryz.ntmps21
  go_wp2
  go_ret
  exact ⟨rfl, rfl⟩
set_option maxRecDepth 100000 in
set_option maxHeartbeats 1000000 in
theorem Index_none (f : Value) (w : World) : Calls Tryz.prog 22 #[.slice none 0 0, f] w fun e w' => e = .returned (.int .i64 (-1)) ∧ w' = w := by
  go_enter Tryz.func22, Tryz.ntmps22
  go_wp2
  go_loopw [8] (fun i wr => i = .int .i64 0 ∧ Hid (wr = w)) (fun _ _ => 0)
  case atStart => exact ⟨rfl, rfl⟩
  case round =>
    obtain ⟨rfl, hW⟩ := hrel
    go_wp2
    go_ret
    exact ⟨rfl, hW.out⟩
set_option maxRecDepth 100000 in
set_option maxHeartbeats 1000000 in
theorem key_0 (w : World) : Calls Tryz.prog 25 #[.string ⟨#[113]⟩, .int .u64 0] w fun e w' => e = .returned (.string ⟨#[113, 0, 0, 0, 0, 0, 0, 0, 0]⟩) ∧ Below w.heap.size w w' := by
  have kc := fun (w : World) (A : Option Addr) (n c : Nat) (hr : Reads w w.heap.size 1 A n (bvs (be8 0))) => run_str8 hr c
  go_enter Tryz.func25, Tryz.ntmps25
  go_wp2_with (go_at_call 29; go_must (refine (Num_any 0 (by decide) _).mono ?_; rintro e w1 ⟨v1, rfl, ho, hb⟩; obtain ⟨A1, c1, rfl, hc1, hr1⟩ := own8_form' ho (n := 8) rfl; have hs := run_str8 hr1 c1; have H1 := Lib.hid hb; clear hb ho hr1 hc1))
  go_ret
  exact ⟨by congr 1, H1.out⟩
end Go.Proofs.YtbcpmnnlhdgbhaaGreatDoor

namespace Go.Proofs.YtbcpmnnlhdgbhaaGreatDoor
open Go.RowKit Go.Lib
theorem part64 (xs : Array Value) (i : Nat) (v : Value) (w : World) (h : xs[i]? = some v) : (part 30 xs i).run Tryz.prog w = .ok v w := by
  have h1 : (isAgg 30).run Tryz.prog w = .ok false w := by kernel_rfl
  simp [part, Sem.run_bind, h1, h]
end Go.Proofs.YtbcpmnnlhdgbhaaGreatDoor

namespace Go.Proofs.YtbcpmnnlhdgbhaaGreatDoor
open Go.RowKit
theorem eqFields_same (d : Nat) (xs : Array Value) (w : World) : ∀ fs : List Field, (∀ p ∈ fs.map (fun f => (f.name, f.type, f.offset)), p.1 ≠ "_" ∧ ∃ v, (part p.2.1 xs p.2.2).run Tryz.prog w = .ok v w ∧ (Op.equalIn d p.2.1 v v).run Tryz.prog w = .ok true w) → (Op.eqFields d xs xs fs).run Tryz.prog w = .ok true w
  | [], _ => by simp [Op.eqFields]
  | f :: fs, h => by
    obtain ⟨h1, v, h2, h3⟩ := h (f.name, f.type, f.offset) (by simp)
    have ih := eqFields_same d xs w fs (fun p hp => h p (by simp only [List.map_cons, List.mem_cons]; exact .inr hp))
    unfold Op.eqFields
    rw [if_pos h1]
    simp only [Sem.run_bind, h2, Result.andThen_ok, h3, Bool.not_true, Bool.false_eq_true, if_false]
    exact ih
theorem partRow (n : Nat) (t : TypeId) (xs : Array Value) (i : Nat) (l : List UInt8) (w : World) (h1 : (isAgg t).run Tryz.prog w = .ok true w) (h2 : (sizeOf t).run Tryz.prog w = .ok n w) (h : xs.extract i (i + n) = (bvs l).toArray) : (part t xs i).run Tryz.prog w = .ok (.agg (bvs l).toArray) w := by
  simp [part, Sem.run_bind, h1, h2, h]
theorem extract_seg {cs : Array Value} {pre mid post : List Value} {i n : Nat} (h : cs = (pre ++ (mid ++ post)).toArray) (h1 : pre.length = i) (h2 : mid.length = n) : cs.extract i (i + n) = mid.toArray := by
  subst h h1 h2
  apply Array.ext'
  simp
theorem root_fields : ((Tryz.prog).fieldsOf 34).toList.map (fun f => (f.name, f.type, f.offset)) = [("Epoch", 30, 0), ("Kind", 30, 1), ("Gen", 30, 2), ("Prev", 31, 3), ("Hash", 31, 35), ("Link", 31, 67), ("Sig", 32, 99)] := by kernel_rfl
theorem eq_root {r : RootV} (hr : r.ok) (w : World) : (Op.equalIn 10000 34 (.agg r.cs) (.agg r.cs)).run Tryz.prog w = .ok true w := by
  rw [run_equalIn_struct w 9999 34 r.cs r.cs (by kernel_rfl) (by kernel_rfl)]
  refine eqFields_same 9999 r.cs w _ ?_
  rw [root_fields]
  have a32 : (isAgg 31).run Tryz.prog w = .ok true w := by kernel_rfl
  have s32 : (sizeOf 31).run Tryz.prog w = .ok 32 w := by kernel_rfl
  have a64 : (isAgg 32).run Tryz.prog w = .ok true w := by kernel_rfl
  have s64 : (sizeOf 32).run Tryz.prog w = .ok 64 w := by kernel_rfl
  have eu : ∀ n : Nat, (Op.equalIn 9999 30 (.int .u64 (n : Int)) (.int .u64 (n : Int))).run Tryz.prog w = .ok true w := fun n => by
    rw [run_equalIn_int w 9998 _ _ _ _ _ Tryz.underlying30]; simp
  have e32 : ∀ l : List UInt8, l.length = 32 → (Op.equalIn 9999 31 (.agg (bvs l).toArray) (.agg (bvs l).toArray)).run Tryz.prog w = .ok true w := fun l hl => by
    rw [eq32 9997 l l hl hl w]; simp
  have e64 : ∀ l : List UInt8, l.length = 64 → (Op.equalIn 9999 32 (.agg (bvs l).toArray) (.agg (bvs l).toArray)).run Tryz.prog w = .ok true w := fun l hl => by
    rw [eq64 9997 l l hl hl w]; simp
  have p3 : r.cs.extract 3 (3 + 32) = (bvs r.p).toArray := extract_seg (pre := [.int .u64 r.e, .int .u64 r.k, .int .u64 r.g]) (post := bvs r.h ++ (bvs r.l ++ bvs r.s)) rfl rfl (by rw [bvs_length, hr.p])
  have p35 : r.cs.extract 35 (35 + 32) = (bvs r.h).toArray := extract_seg (pre := [.int .u64 r.e, .int .u64 r.k, .int .u64 r.g] ++ bvs r.p) (post := bvs r.l ++ bvs r.s) (by rw [List.append_assoc]; rfl) (by rw [List.length_append, bvs_length, hr.p]; rfl) (by rw [bvs_length, hr.h])
  have p67 : r.cs.extract 67 (67 + 32) = (bvs r.l).toArray := extract_seg (pre := [.int .u64 r.e, .int .u64 r.k, .int .u64 r.g] ++ (bvs r.p ++ bvs r.h)) (post := bvs r.s) (by simp [RootV.cs, RootV.vs]) (by rw [List.length_append, List.length_append, bvs_length, bvs_length, hr.p, hr.h]; rfl) (by rw [bvs_length, hr.l])
  have p99 : r.cs.extract 99 (99 + 64) = (bvs r.s).toArray := extract_seg (pre := [.int .u64 r.e, .int .u64 r.k, .int .u64 r.g] ++ (bvs r.p ++ (bvs r.h ++ bvs r.l))) (post := []) (by simp [RootV.cs, RootV.vs]) (by rw [List.length_append, List.length_append, List.length_append, bvs_length, bvs_length, bvs_length, hr.p, hr.h, hr.l]; rfl) (by rw [bvs_length, hr.s])
  intro p hp
  simp only [List.mem_cons, List.not_mem_nil, or_false] at hp
  rcases hp with rfl | rfl | rfl | rfl | rfl | rfl | rfl
  · exact ⟨by decide, _, part64 r.cs 0 _ w rfl, eu r.e⟩
  · exact ⟨by decide, _, part64 r.cs 1 _ w rfl, eu r.k⟩
  · exact ⟨by decide, _, part64 r.cs 2 _ w rfl, eu r.g⟩
  · exact ⟨by decide, _, partRow 32 _ r.cs 3 r.p w a32 s32 p3, e32 r.p hr.p⟩
  · exact ⟨by decide, _, partRow 32 _ r.cs 35 r.h w a32 s32 p35, e32 r.h hr.h⟩
  · exact ⟨by decide, _, partRow 32 _ r.cs 67 r.l w a32 s32 p67, e32 r.l hr.l⟩
  · exact ⟨by decide, _, partRow 64 _ r.cs 99 r.s w a64 s64 p99, e64 r.s hr.s⟩
theorem keys_fields : ((Tryz.prog).fieldsOf 38).toList.map (fun f => (f.name, f.type, f.offset)) = [("Gen", 30, 0), ("Sign", 31, 1), ("Vrf", 31, 33)] := by kernel_rfl
theorem eq_keys {k : KeyV} (hk : k.ok) (w : World) : (Op.equalIn 10000 38 (.agg k.cs) (.agg k.cs)).run Tryz.prog w = .ok true w := by
  rw [run_equalIn_struct w 9999 38 k.cs k.cs (by kernel_rfl) (by kernel_rfl)]
  refine eqFields_same 9999 k.cs w _ ?_
  rw [keys_fields]
  have a32 : (isAgg 31).run Tryz.prog w = .ok true w := by kernel_rfl
  have s32 : (sizeOf 31).run Tryz.prog w = .ok 32 w := by kernel_rfl
  have eu : ∀ n : Nat, (Op.equalIn 9999 30 (.int .u64 (n : Int)) (.int .u64 (n : Int))).run Tryz.prog w = .ok true w := fun n => by
    rw [run_equalIn_int w 9998 _ _ _ _ _ Tryz.underlying30]; simp
  have e32 : ∀ l : List UInt8, l.length = 32 → (Op.equalIn 9999 31 (.agg (bvs l).toArray) (.agg (bvs l).toArray)).run Tryz.prog w = .ok true w := fun l hl => by
    rw [eq32 9997 l l hl hl w]; simp
  have p1 : k.cs.extract 1 (1 + 32) = (bvs k.s).toArray := extract_seg (pre := [.int .u64 k.g]) (post := bvs k.v) rfl rfl (by rw [bvs_length, hk.1])
  have p33 : k.cs.extract 33 (33 + 32) = (bvs k.v).toArray := extract_seg (pre := [.int .u64 k.g] ++ bvs k.s) (post := []) (by rw [List.append_nil, List.append_assoc]; rfl) (by rw [List.length_append, bvs_length, hk.1]; rfl) (by rw [bvs_length, hk.2])
  intro p hp
  simp only [List.mem_cons, List.not_mem_nil, or_false] at hp
  rcases hp with rfl | rfl | rfl
  · exact ⟨by decide, _, part64 k.cs 0 _ w rfl, eu k.g⟩
  · exact ⟨by decide, _, partRow 32 _ k.cs 1 k.s w a32 s32 p1, e32 k.s hk.1⟩
  · exact ⟨by decide, _, partRow 32 _ k.cs 33 k.v w a32 s32 p33, e32 k.v hk.2⟩
theorem bin_keys {k : KeyV} (hk : k.ok) (w : World) : (binOp .eql 38 (.agg k.cs) (.agg k.cs)).run Tryz.prog w = .ok (.bool true) w := by
  rw [run_eql_struct, eq_keys hk w]
  rfl
theorem bin_root {r : RootV} (hr : r.ok) (w : World) : (binOp .eql 34 (.agg r.cs) (.agg r.cs)).run Tryz.prog w = .ok (.bool true) w := by
  rw [run_eql_struct, eq_root hr w]
  rfl
theorem keyZ_ok : keyZ.ok := ⟨List.length_replicate .., List.length_replicate ..⟩
set_option maxRecDepth 100000 in
theorem built_keys0 : (Tryz.prog).built 38 [] = some keyZ.cs := by kernel_rfl
set_option maxRecDepth 100000 in
theorem built_rootZ : (Tryz.prog).built 34 [] = some rootZ0.cs := by kernel_rfl
end Go.Proofs.YtbcpmnnlhdgbhaaGreatDoor
