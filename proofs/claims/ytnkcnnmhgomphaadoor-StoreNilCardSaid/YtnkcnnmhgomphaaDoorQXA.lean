/- The texts X1 X2 of this work, merged by wip/merge.py. No conditions. -/
import Derived.Test.YtnkcnnmhgomphaaDoorQYG
import Derived.Test.YtnkcnnmhgomphaaDoorQWX
import Derived.Lib.ConvBytes
namespace Go.Proofs.YtnkcnnmhgomphaaDoor
open Go.RowKit
/-- The cells of the change. -/
def chg : Array Value := #[.string ⟨#[107]⟩, .string ⟨#[118]⟩, .bool false]
def BatchAt (w : World) (b : Nat) : Prop := w.heap[b]? = some (.cells #[.string ⟨#[107]⟩, .string ⟨#[118]⟩, .bool false] 38 (0, 0))
theorem BatchAt.bel {w w' : World} {b : Nat} (h : BatchAt w b) (hb : Below w.heap.size w w') : BatchAt w' b := heap_below h hb
theorem BatchAt.cells {w : World} {b : Nat} (h : BatchAt w b) : w.cell? ⟨b, 0, none⟩ = some (.string ⟨#[107]⟩) ∧ w.cell? ⟨b, 1, none⟩ = some (.string ⟨#[118]⟩) ∧ w.cell? ⟨b, 2, none⟩ = some (.bool false) :=
  ⟨cell_of_row _ _ _ _ _ _ h, cell_of_row _ _ _ _ _ _ h, cell_of_row _ _ _ _ _ _ h⟩
theorem size_kv (w : World) : Calls Tryd.prog 30 #[.agg #[.string ⟨#[107]⟩, .string ⟨#[118]⟩, .bool false]] w fun e w' => e = .returned (.int .i64 18) ∧ Below w.heap.size w w' := by
  go_enter Tryd.func30, Tryd.ntmps30
  go_wp2
  go_ret
  exact ⟨rfl, (Below.refl _ _).alloc (Nat.le_refl _) _⟩
set_option maxRecDepth 100000 in
set_option maxHeartbeats 1000000 in
theorem right_kv (b : Nat) (w : World) (hb : BatchAt w b) : Calls Tryd.prog 16 #[.slice (some ⟨b, 0, none⟩) 1 1] w fun e w' => e = .returned (.int .i64 0) ∧ Below w.heap.size w w' := by
  have HB := Lib.hid hb
  clear hb
  go_enter Tryd.func16, Tryd.ntmps16
  go_wp2
  go_loopw [3, 11] (fun s i wr => ∃ k : Nat, k ≤ 1 ∧ i = .int .i64 (k : Int) ∧ s = .int .i64 (18 * (k : Int)) ∧ Hid (Below w.heap.size w wr)) (fun _ i _ => 1 - (intOf i).toNat)
  case atStart => exact ⟨0, Nat.zero_le _, rfl, rfl, Below.refl _ _⟩
  case round =>
    obtain ⟨k, hk, rfl, rfl, hW⟩ := hrel
    by_cases hlt : k < 1
    · have hlt' : (k : Int) < 1 := by omega
      obtain rfl : k = 0 := by omega
      have HBW := Lib.hid (HB.out.bel hW.out)
      obtain ⟨c0, c1, c2⟩ := HBW.out.cells
      go_wp2_with (first
        | (go_at_call 30; go_must (refine (size_kv _).mono ?_; rintro e w5 ⟨rfl, hb5⟩; have HB5 := Lib.hid hb5; clear hb5)))
      go_roundw
      case rel =>
        refine ⟨1, by omega, by go_num, by go_num, ?_⟩
        exact (hW.out.alloc hW.out.size _).trans (HB5.out.mono (hW.out.alloc hW.out.size _).size)
      case measure => simp [intOf]
    · obtain rfl : k = 1 := by omega
      go_wp2
      go_ret
      exact ⟨rfl, hW.out⟩
end Go.Proofs.YtnkcnnmhgomphaaDoor

namespace Go.Proofs.YtnkcnnmhgomphaaDoor
open Go.RowKit
def one4 : List UInt8 := [43, 1, 107, 118]
theorem bytes_bel (w : World) (l : List UInt8) : Below w.heap.size w (Lib.bytesWorld w 5 ⟨l.toArray⟩) := by
  refine ⟨?_, ?_, ?_, by rw [Lib.bytesWorld_size]; omega, fun k hk => Lib.bytesWorld_at_old w _ _ k hk⟩
  all_goals (unfold Lib.bytesWorld World.freeze; rw [if_neg (by decide)]; rfl)
theorem bytes_reads (w : World) (l : List UInt8) (n : Nat) (hn : l.length = n) : Reads (Lib.bytesWorld w 5 ⟨l.toArray⟩) (w.heap.size + 1) 1 (some ⟨w.heap.size, 0, none⟩) n (bvs l) := by
  subst hn
  have hn : (ByteArray.mk l.toArray).size = l.length := by simp [ByteArray.size]
  refine ⟨by simp [bvs_length], fun _ => ⟨_, rfl, by simp, fun j u hu => ?_⟩⟩
  have hj : j < l.length := by
    have := (List.getElem?_eq_some_iff.1 hu).1
    simpa [bvs_length] using this
  have hadd : (⟨w.heap.size, 0, none⟩ : Addr).add j = ⟨w.heap.size, j, none⟩ := by unfold Addr.add; split <;> simp_all
  rw [hadd, Lib.bytesWorld_cell w _ _ j (by rw [hn]; exact hj)]
  simp [bvs, hj] at hu
  simp [hj, ← hu, bv]
theorem conv4 (w : World) : (convert 9 48 (.string (({ data := #[43] } : ByteArray) ++ Utf8.encode 1 ++ { data := #[107] } ++ { data := #[118] }))).run Tryd.prog w = .ok (.slice (some ⟨w.heap.size, 0, none⟩) 4 (grownCap w 4 0 5)) (Lib.bytesWorld w 5 ⟨one4.toArray⟩) := by
  have e : (({ data := #[43] } : ByteArray) ++ Utf8.encode 1 ++ { data := #[107] } ++ { data := #[118] }) = ⟨one4.toArray⟩ := by decide +kernel
  rw [e]
  exact Lib.run_convert_string_bytes w _ _ _ _ Tryd.underlying9 Tryd.underlying48 Tryd.underlying5
theorem cap4 (w : World) : 4 ≤ grownCap w 4 0 5 := by
  exact grownCap_ge w 4 0 5
/-- The list of the one record, behind its statement. -/
def ListI (w wr : World) (s : Value) (k : Nat) : Prop := Below w.heap.size w wr ∧ (k = 0 → s = .slice none 0 0) ∧ (k = 1 → ∃ A c, s = .slice A 1 c ∧ Lists wr wr.heap.size A [one4])
theorem sz_le (wr : World) (o o2 : Obj) : wr.heap.size ≤ ((Lib.bytesWorld (wr.alloc o) 5 ⟨one4.toArray⟩).alloc o2).heap.size := by
  have h3 := Lib.bytesWorld_size (wr.alloc o) 5 ⟨one4.toArray⟩
  have h4 : (wr.alloc o).heap.size = wr.heap.size + 1 := by simp
  have h5 : ((Lib.bytesWorld (wr.alloc o) 5 ⟨one4.toArray⟩).alloc o2).heap.size = (Lib.bytesWorld (wr.alloc o) 5 ⟨one4.toArray⟩).heap.size + 1 := by simp
  omega
theorem list_one (w wr w5 : World) (o o2 : Obj) (v5 : Value) (c : Nat) (hW : Below w.heap.size w wr) (hc : 4 ≤ c) (ho : w5.ownsRow wr.heap.size 48 1 v5 (0 + 1) ([] ++ [.slice (some ⟨wr.heap.size + 1, 0, none⟩) 4 c])) (hg : ((Lib.bytesWorld (wr.alloc o) 5 ⟨one4.toArray⟩).alloc o2).grownBy w5 none) : ListI w w5 v5 1 := by
  have hsz : (wr.alloc o).heap.size = wr.heap.size + 1 := by simp
  have hA : Below wr.heap.size wr (wr.alloc o) := (Below.refl _ _).alloc (Nat.le_refl _) _
  obtain ⟨B, hB⟩ : ∃ B, Lib.bytesWorld (wr.alloc o) 5 ⟨one4.toArray⟩ = B := ⟨_, rfl⟩
  have h1 := bytes_bel (wr.alloc o) one4
  have h2 := bytes_reads (wr.alloc o) one4 4 rfl
  have h3 := Lib.bytesWorld_size (wr.alloc o) 5 ⟨one4.toArray⟩
  rw [hB] at h1 h2 h3 hg
  rw [← h3, hsz] at h2
  have hC : Below B.heap.size B w5 := ((Below.refl _ _).alloc (Nat.le_refl _) o2).grown hg (by simp) (fun k hk => by cases hk)
  have hr := (h2.below hC).more hC.size
  have hx : Below wr.heap.size wr w5 := hA.trans ((h1.trans (hC.mono h1.size)).mono hA.size)
  refine ⟨hW.trans (hx.mono hW.size), fun h => (by cases h), fun _ => ?_⟩
  obtain ⟨g, cap, rfl, _, _, _⟩ := row_slice ho (by omega)
  refine ⟨_, cap, rfl, [.slice (some ⟨wr.heap.size + 1, 0, none⟩) 4 c], Reads.of_own ho, fun i hi => ?_⟩
  have hi' : i < 1 := hi
  obtain rfl : i = 0 := by omega
  exact ⟨_, c, rfl, hc, hr⟩
set_option maxRecDepth 100000 in
set_option maxHeartbeats 1000000 in
theorem record_kv (b : Nat) (w : World) (hb : BatchAt w b) : Calls Tryd.prog 18 #[.slice (some ⟨b, 0, none⟩) 1 1] w fun e w' => ∃ v, e = .returned v ∧ Own8 w' w.heap.size v (encB [one4]) ∧ Below w.heap.size w w' := by
  have HB := Lib.hid hb
  clear hb
  go_enter Tryd.func18, Tryd.ntmps18
  go_wp2
  go_loopw [3, 11] (fun s i wr => ∃ k : Nat, k ≤ 1 ∧ i = .int .i64 (k : Int) ∧ Hid (ListI w wr s k)) (fun _ i _ => 1 - (intOf i).toNat)
  case atStart => exact ⟨0, Nat.zero_le _, rfl, Below.refl _ _, fun _ => rfl, fun h => by cases h⟩
  case round =>
    obtain ⟨k, hk, rfl, hW⟩ := hrel
    by_cases hlt : k < 1
    · have hlt' : (k : Int) < 1 := by omega
      obtain rfl : k = 0 := by omega
      have HBW := Lib.hid (HB.out.bel hW.out.1)
      obtain ⟨c0, c1, c2⟩ := HBW.out.cells
      have hu3 := hW.out.2.1 rfl
      subst hu3
      have hcv := conv4
      go_wp2_with (first
        | (at_builtin; go_must (refine appW rfl rfl rfl rfl (World.ownsRow_nil _ wr.heap.size _ _) (reads_one _ _) (by simp [Value.oneCell']) (by omega) ?_ ?_; rotate_left; intro v5 w5 ho5 hg5 hv5; have H5 := Lib.hid (And.intro ho5 hg5); clear ho5 hg5 hv5)))
      case refine_1 => exact sz_le _ _ _
      refine ⟨⟨1, by omega, by go_num, list_one w wr w5 _ _ v5 _ hW.out.1 (cap4 _) H5.out.1 H5.out.2⟩, by simp [intOf]⟩
    · obtain rfl : k = 1 := by omega
      obtain ⟨A, c, rfl, hls⟩ := hW.out.2.2 rfl
      have HLS := Lib.hid hls
      clear hls
      go_wp2_with (first
        | (go_at_call 36; go_must (refine (Encode_any A c [one4] _ HLS.out (by simp)).mono ?_; rintro e w5 ⟨v5, rfl, ho5, hb5⟩; have H5 := Lib.hid (And.intro ho5 hb5); clear ho5 hb5)))
      go_ret
      exact ⟨_, rfl, ownsRow_low H5.out.1 hW.out.1.size, hW.out.1.trans (H5.out.2.mono hW.out.1.size)⟩
end Go.Proofs.YtnkcnnmhgomphaaDoor
