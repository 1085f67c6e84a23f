/- The texts PB1 W11 W12 W13 U5 of this work, merged by wip/merge.py. No conditions. -/
import Derived.Test.YtbcpmnnlhdgbhaaGreatDoorQG37
import Derived.Test.YtbcpmnnlhdgbhaaGreatDoorQG38
import Derived.Test.YtbcpmnnlhdgbhaaGreatDoorQG36
import Derived.Lib.SlBytesConst
import Derived.Test.YtbcpmnnlhdgbhaaGreatDoorQG01
import Derived.Lib.BytesEntry
import Derived.Laws.Externs
import Derived.Deep.DeepMust
import Derived.Test.YtbcpmnnlhdgbhaaGreatDoorQG25
import Derived.BigQuiet
import Derived.Deep.MidRow
namespace Go.Proofs.YtbcpmnnlhdgbhaaGreatDoor
open Go.RowKit Go.Lib
def batch5 : List UInt8 := [98, 97, 116, 99, 104]
def msg3 : List (List UInt8) := [batch5, [97], []]
def msgB : List UInt8 := [0, 0, 0, 3, 0, 0, 0, 5, 98, 97, 116, 99, 104, 0, 0, 0, 1, 97, 0, 0, 0, 0]
theorem enc3 : encB msg3 = msgB := by decide +kernel
/-- The list under way, behind its statement. -/
def LstI (w wr : World) (s : Value) (k : Nat) : Prop := Below w.heap.size w wr ∧ (k = 0 → ∃ b1 b2, s = .slice (some ⟨b2, 0, none⟩) 1 1 ∧ w.heap.size ≤ b2 ∧ wr.heap[b1]? = some (.cells (bvs batch5).toArray 5 (5, 6)) ∧ wr.heap[b2]? = some (.cells #[.slice (some ⟨b1, 0, none⟩) 5 5] 96 (0, 0))) ∧ (k = 1 → ∃ A c, s = .slice A 3 c ∧ Lists wr wr.heap.size A msg3)
theorem lst_start (w : World) (o : Obj) (ho : o = .cells (bvs batch5).toArray 5 (5, 6)) : LstI w ((w.alloc o).alloc (.cells #[.slice (some ⟨w.heap.size, 0, none⟩) 5 5] 96)) (.slice (some ⟨w.heap.size + 1, 0, none⟩) 1 1) 0 := by
  subst ho
  have hsz : (w.alloc (.cells (bvs batch5).toArray 5 (5, 6))).heap.size = w.heap.size + 1 := by simp
  have h1 : Below w.heap.size w (w.alloc (.cells (bvs batch5).toArray 5 (5, 6))) := (Below.refl _ _).alloc (Nat.le_refl _) _
  have h2 := (Below.refl (w.alloc (.cells (bvs batch5).toArray 5 (5, 6))).heap.size (w.alloc (.cells (bvs batch5).toArray 5 (5, 6)))).alloc (Nat.le_refl _) (.cells #[.slice (some ⟨w.heap.size, 0, none⟩) 5 5] 96)
  rw [← hsz]
  exact ⟨h1.trans (h2.mono h1.size), fun _ => ⟨w.heap.size, _, rfl, h1.size, heap_below (heap_alloc_new w _) h2, heap_alloc_new _ _⟩, fun h => by cases h⟩
theorem reads_eq {w w' : World} {B B' size b off n : Nat} {xs : List Value} (h : Reads w B size (some ⟨b, off, none⟩) n xs) (he : w'.heap[b]? = w.heap[b]?) (hB : b < B') : Reads w' B' size (some ⟨b, off, none⟩) n xs :=
  ⟨h.1, fun hn => by
    obtain ⟨ad, e, hb, hc⟩ := h.2 hn
    cases e
    exact ⟨_, rfl, hB, fun j u hu => (World.cell?_of_block (by rw [block_of_add]; exact he)).trans (hc j u hu)⟩⟩
theorem reads_cells {w : World} {b n : Nat} {cs : Array Value} {t : TypeId} {f : Nat × Nat} (h : w.heap[b]? = some (.cells cs t f)) (hn : cs.size = n) : Reads w w.heap.size 1 (some ⟨b, 0, none⟩) n cs.toList := by
  subst hn
  refine ⟨by simp, fun _ => ⟨_, rfl, lt_of_some h, fun j u hu => ?_⟩⟩
  rw [add_none]
  show w.cell? ⟨b, 0 + j, none⟩ = _
  rw [Nat.zero_add, cell_of_row w b j _ _ _ h]
  simpa using hu
theorem below_row {w w3 w5 : World} {v : Value} {e : TypeId} {size n : Nat} {xs : List Value} (hb : Below w.heap.size w w3) (ho : w3.ownsRow w.heap.size e size v n xs) (hg : w3.grownBy w5 v.ownBlock) : Below w.heap.size w w5 :=
  hb.grown hg hb.size (fun k hk => by
    rcases ho.2 with ⟨rfl, _⟩ | ⟨g, cap, cur, rfl, h, _⟩
    · cases hk
    · cases hk; exact h)
theorem list_three {wr w5 : World} {v5 : Value} {b1 b2 bA cA B : Nat} (h1 : wr.heap[b1]? = some (.cells (bvs batch5).toArray 5 (5, 6))) (h2 : wr.heap[b2]? = some (.cells #[.slice (some ⟨b1, 0, none⟩) 5 5] 96 (0, 0))) (h3 : Reads wr wr.heap.size 1 (some ⟨bA, 0, none⟩) 1 (bvs [97])) (hcA : 1 ≤ cA) (hA : bA ≠ b2) (hlA : bA < wr.heap.size)
    (ho : w5.ownsRow B 96 1 v5 (1 + 2) ([.slice (some ⟨b1, 0, none⟩) 5 5] ++ [.slice (some ⟨bA, 0, none⟩) 1 cA, .slice none 0 0])) (hg : wr.grownBy w5 (some b2)) : ∃ A c, v5 = .slice A 3 c ∧ Lists w5 w5.heap.size A msg3 := by
  have h12 : b1 ≠ b2 := by
    rintro rfl
    rw [h1] at h2
    injection h2 with h2
    injection h2 with h2 h2'
    exact absurd h2' (by decide)
  have hl1 : b1 < wr.heap.size := lt_of_some h1
  have e1 : w5.heap[b1]? = wr.heap[b1]? := hg.block b1 hl1 (fun e => h12 (by cases e; rfl))
  have eA : w5.heap[bA]? = wr.heap[bA]? := hg.block bA hlA (fun e => hA (by cases e; rfl))
  have hsz : wr.heap.size ≤ w5.heap.size := hg.size
  obtain ⟨g, cap, rfl, _, _, _⟩ := row_slice ho (by omega)
  refine ⟨_, cap, rfl, [.slice (some ⟨b1, 0, none⟩) 5 5, .slice (some ⟨bA, 0, none⟩) 1 cA, .slice none 0 0], Reads.of_own ho, fun i hi => ?_⟩
  have hi' : i < 3 := hi
  rcases (show i = 0 ∨ i = 1 ∨ i = 2 by omega) with rfl | rfl | rfl
  · exact ⟨_, 5, rfl, Nat.le_refl _, reads_block (h := e1.trans h1) (hn := rfl)⟩
  · exact ⟨_, cA, rfl, hcA, reads_eq h3 eA (by omega)⟩
  · exact ⟨_, 0, rfl, Nat.le_refl _, Reads.none_⟩
theorem zeroUpd : ∀ w, (zeroValue 29).run Tryz.prog w = .ok (.agg #[.string ⟨#[]⟩, .slice none 0 0]) w := fun w => by kernel_rfl
set_option maxRecDepth 100000 in
set_option maxHeartbeats 2000000 in
theorem bytesOf_1 (bu : Nat) (w : World) (hu : w.heap[bu]? = some (.cells #[.string ⟨#[97]⟩, .slice none 0 0] 29 (0, 0))) : Calls Tryz.prog 26 #[.slice (some ⟨bu, 0, none⟩) 1 1] w fun e w' => e = .returned (.string ⟨msgB.toArray⟩) ∧ Below w.heap.size w w' := by
  have HU := Lib.hid hu
  clear hu
  have kc := fun (w : World) (C : Array Value) (n c : Nat) => Lib.run_convert_bytes_const (P := Tryz.prog) w 96 5 C n c Tryz.underlying96 Tryz.underlying5
  go_enter Tryz.func26, Tryz.ntmps26
  go_wp2
  go_loopw [3, 13] (fun s i wr => ∃ k : Nat, k ≤ 1 ∧ i = .int .i64 (k : Int) ∧ Hid (LstI w wr s k)) (fun _ i _ => 1 - (Go.RowKit.intOf i).toNat)
  case atStart => exact ⟨0, Nat.zero_le _, rfl, lst_start w _ rfl⟩
  case round =>
    obtain ⟨k, hk, rfl, hW⟩ := hrel
    by_cases hlt : k < 1
    · have hlt' : (k : Int) < 1 := by omega
      obtain rfl : k = 0 := by omega
      obtain ⟨b1, b2, rfl, hb2, h1, h2⟩ := hW.out.2.1 rfl
      have RG : Hid (wr.rangeAt bu 0 [.string ⟨#[97]⟩, .slice none 0 0]) := range_row (heap_below HU.out hW.out.1)
      have HB : Hid (Below w.heap.size w wr) := hW.out.1
      have H2 := Lib.hid hb2
      have H12 := Lib.hid (And.intro h1 h2)
      have F0 := Lib.hid (BK.start wr)
      clear hW hb2 h1 h2 hk hlt
      go_wp2_with (first
        | (refine wpList_load_arr rfl _ _ rfl bu 0 rfl #[.string ⟨#[97]⟩, .slice none 0 0] _ (by with_reducible exact RG.out) Tryz.underlying29 rfl (by kernel_rfl) ?_)
        | (refine s_alloc F0.out rfl rfl zeroUpd rfl ?_; intro w1 b3 h1 _; have F1 := Lib.hid h1; clear h1 F0)
        | (refine s_store F1.out rfl rfl 0 rfl rfl #[.string ⟨#[97]⟩, .slice none 0 0] rfl rfl (by kernel_rfl) (by kernel_rfl) ?_; intro w2 h1; have F2 := Lib.hid h1; clear h1 F1))
      refine wp_region_rg' 8 [none, none, none, some (Tell.fresh [97]), none, none, some (Tell.is (.slice none 0 0)), some (Tell.row 2 (fun xs => xs.toArray) 96)] (by kernel_rfl) rfl (by kernel_rfl) ⟨Tell.fresh_good _, Tell.is_good _, Tell.row_good _ _ _, trivial⟩ ?_
      simp only [List.take_succ_cons, List.take_zero, List.zip_cons_cons, List.zip_nil_right]
      try simp only [Act.put]
      try simp only [List.setIfInBounds_toArray, List.set_cons_succ, List.set_cons_zero]
      refine rg_e rfl fun N hNe => ?_
      go_big_quiet_step (fail)
      refine wpQuiet_nil ?_
      refine rg_e rfl fun N hNe => ?_
      go_big_quiet_step (fail)
      refine wpQuiet_nil ?_
      refine rg_load1 _ _ rfl b3 0 rfl (.string ⟨#[97]⟩) (fun w' hb _ => (F2.out.later hb).cell 0 rfl 0) (fun w => by kernel_rfl) ?_
      try simp only [Act.put]
      try simp only [List.setIfInBounds_toArray, List.set_cons_succ, List.set_cons_zero]
      refine rg_conv rfl rfl ?_
      intro bA cA hcA
      have HCA := Lib.hid hcA
      clear hcA
      try simp only [Act.put]
      try simp only [List.setIfInBounds_toArray, List.set_cons_succ, List.set_cons_zero]
      refine rg_e rfl fun N hNe => ?_
      go_big_quiet_step (fail)
      refine wpQuiet_nil ?_
      refine rg_load1 _ _ rfl b3 1 rfl (.slice none 0 0) (fun w' hb _ => (F2.out.later hb).cell 0 rfl 1) (fun w => by kernel_rfl) ?_
      try simp only [Act.put]
      try simp only [List.setIfInBounds_toArray, List.set_cons_succ, List.set_cons_zero]
      refine rg_call 57 _ rfl (vs := [.slice none 0 0]) rfl (fun _ _ => rfl) (v := .slice none 0 0) (fun w' _ _ => (Joined_none w').mono fun e w2 h => ⟨h.1, by rw [h.2]; exact Below.refl _ _⟩) ?_
      try simp only [Act.put]
      try simp only [List.setIfInBounds_toArray, List.set_cons_succ, List.set_cons_zero]
      refine rg_rows2 rfl rfl rfl rfl ?_
      intro bL
      intro w3 hb hfs hnd hown
      have hA : Reads w3 w3.heap.size 1 (some ⟨bA, 0, none⟩) 1 (bvs [97]) := hfs _ (List.mem_of_getElem? (i := 0) rfl)
      have hL : w3.heap[bL]? = some (.cells #[.slice (some ⟨bA, 0, none⟩) 1 cA, .slice none 0 0] 96 (0, 0)) := hfs _ (List.mem_of_getElem? (i := 2) rfl)
      have hoA := hown bA (by simp)
      have h20 : Below wr.heap.size wr w2 := F2.out.below
      have h2l : b2 < wr.heap.size := lt_of_some H12.out.2
      have hb13 : Below wr.heap.size wr w3 := h20.trans (hb.mono h20.size)
      have HX : Hid (w3.heap[b1]? = some (.cells (bvs batch5).toArray 5 (5, 6)) ∧ w3.heap[b2]? = some (.cells #[.slice (some ⟨b1, 0, none⟩) 5 5] 96 (0, 0)) ∧ Reads w3 w3.heap.size 1 (some ⟨bA, 0, none⟩) 1 (bvs [97]) ∧ bA ≠ b2 ∧ bA < w3.heap.size ∧ w3.heap[bL]? = some (.cells #[.slice (some ⟨bA, 0, none⟩) 1 cA, .slice none 0 0] 96 (0, 0))) :=
        ⟨heap_below H12.out.1 hb13, heap_below H12.out.2 hb13, hA, (by have := h20.size; omega), hoA.2, hL⟩
      have HB3 : Hid (Below w.heap.size w w3) := HB.out.trans (hb13.mono HB.out.size)
      clear hb hfs hnd hown hA hL hoA h20 h2l hb13
      simp only [List.drop_succ_cons, List.drop_zero]
      try simp only [Act.put]
      try simp only [List.setIfInBounds_toArray, List.set_cons_succ, List.set_cons_zero]
      have hO : Hid (w3.ownsRow w.heap.size 96 1 (.slice (some ⟨b2, 0, none⟩) 1 1) 1 [.slice (some ⟨b1, 0, none⟩) 5 5]) := ⟨rfl, .inr ⟨b2, 1, _, rfl, H2.out, HX.out.2.1, Nat.le_refl _, by simp [maxLen], rfl, rfl⟩⟩
      have hR : Hid (Reads w3 w3.heap.size 1 (some ⟨bL, 0, none⟩) 2 [.slice (some ⟨bA, 0, none⟩) 1 cA, .slice none 0 0]) := reads_cells HX.out.2.2.2.2.2 rfl
      go_wp2_with (at_builtin; go_must (refine appW rfl rfl rfl rfl hO.out hR.out (by simp [Value.oneCell']) (by omega) HB3.out.size ?_; intro v5 w5 ho5 hg5 hv5; have H5 := Lib.hid (And.intro ho5 hg5); clear ho5 hg5 hv5))
      refine ⟨⟨1, by omega, by go_num, ?_, fun h => (by cases h), fun _ => list_three HX.out.1 HX.out.2.1 HX.out.2.2.1 HCA.out HX.out.2.2.2.1 HX.out.2.2.2.2.1 H5.out.1 H5.out.2⟩, by simp [Go.RowKit.intOf]⟩
      exact below_row HB3.out hO.out H5.out.2
    · obtain rfl : k = 1 := by omega
      obtain ⟨A, c, rfl, hls⟩ := hW.out.2.2 rfl
      have HLS := Lib.hid hls
      have HB := Lib.hid hW.out.1
      clear hls hW
      go_wp2_with (first
        | (go_at_call 28; go_must (refine (Encode_any A c msg3 _ HLS.out (by simp [msg3])).mono ?_; rintro e w5 ⟨v5, rfl, ho5, hb5⟩; rw [enc3] at ho5; obtain ⟨A5, c5, rfl, hc5, hr5⟩ := own8_form' ho5 (n := 22) rfl; have hs5 := run_str8 hr5 c5; have H5 := Lib.hid hb5; clear ho5 hb5 hc5 hr5)))
      go_ret
      exact ⟨rfl, HB.out.trans (H5.out.mono HB.out.size)⟩
end Go.Proofs.YtbcpmnnlhdgbhaaGreatDoor

namespace Go.Proofs.YtbcpmnnlhdgbhaaGreatDoor
open Go.RowKit

theorem run_bytesOf {w : World} {B n : Nat} {A : Option Addr} {l : List UInt8} (hr : Reads w B 1 A n (bvs l)) (c : Nat) : (Extern.Bytes.bytesOf (.slice A n c)).run Tryz.prog w = .ok ⟨l.toArray⟩ w := by
  have hm : n = l.length := by have := hr.1; rw [bvs_length] at this; omega
  subst hm
  cases A with
  | none =>
    have hn : l = [] := by
      cases l with
      | nil => rfl
      | cons a l => obtain ⟨_, h, _⟩ := hr.2 (by simp); cases h
    subst hn
    rfl
  | some ad =>
    have hb : Lib.bytesOf (l.map fun b => (b.toNat : Int)) = l := by
      simp only [Lib.bytesOf, List.map_map]
      refine (List.map_congr_left (g := id) fun b _ => ?_).trans (List.map_id l)
      simp
    have := Lib.run_loadBytesX (P := Tryz.prog) w (l.map fun b => (b.toNat : Int)) ad .empty (fun j x hj => by
      have hjl : j < l.length := by have := (List.getElem?_eq_some_iff.1 hj).1; simpa using this
      obtain ⟨ad', h, _, hc⟩ := hr.2 (by omega)
      cases h
      refine hc j _ ?_
      simp [List.getElem?_eq_getElem hjl] at hj
      subst hj
      simp [bvs, bv, List.getElem?_eq_getElem hjl])
    rw [List.length_map, hb] at this
    show (Extern.Bytes.loadBytes ad l.length .empty).run Tryz.prog w = _
    rw [this]
    congr 1
    apply ByteArray.ext
    show (#[] : Array UInt8) ++ l.toArray = l.toArray
    simp

theorem run_cmp {w : World} {B n B2 m : Nat} {A A2 : Option Addr} {l l2 : List UInt8} (hr : Reads w B 1 A n (bvs l)) (hr2 : Reads w B2 1 A2 m (bvs l2)) (c c2 : Nat) :
    (callFunc 86 #[.slice A n c, .slice A2 m c2]).run Tryz.prog w = .ok (.value (.int .i64 (Lib.compareBytes l l2))) w := by
  rw [run_callFunc_extern Tryz.func86 (by kernel_rfl) (by kernel_rfl) (by kernel_rfl) (e := Extern.BytealgCompare.compare) (by kernel_rfl)]
  change (Sem.run Tryz.prog (do pure (goInt (Extern.BytealgCompare.cmp (← Extern.Bytes.bytesOf (.slice A n c)) (← Extern.Bytes.bytesOf (.slice A2 m c2))))) w).andThen _ = _
  simp only [Sem.run_bind, Sem.run_pure, Result.andThen, run_bytesOf hr, run_bytesOf hr2]
  rw [Lib.cmp_eq]
  rfl

set_option maxRecDepth 100000 in
set_option maxHeartbeats 1000000 in
theorem Compare_any (A A2 : Option Addr) (n c m c2 B B2 : Nat) (l l2 : List UInt8) (w : World) (hr : Reads w B 1 A n (bvs l)) (hr2 : Reads w B2 1 A2 m (bvs l2)) :
    Calls Tryz.prog 50 #[.slice A n c, .slice A2 m c2] w fun e w' => e = .returned (.int .i64 (Lib.compareBytes l l2)) ∧ w' = w := by
  have hc := run_cmp hr hr2 c c2
  go_enter Tryz.func50, Tryz.ntmps50
  go_wp2
  go_ret
  exact ⟨rfl, rfl⟩

/-- The order of two hashes: as numbers, big-endian. -/
def belowB : List UInt8 → List UInt8 → Bool
  | a :: l, b :: m => if a = b then belowB l m else decide (a < b)
  | _, _ => false
theorem compare_below : ∀ (l m : List UInt8), l.length = m.length → (decide (0 ≤ Lib.compareBytes l m) = !belowB l m)
  | [], [], _ => by simp [Lib.compareBytes, belowB]
  | a :: l, b :: m, h => by
    have ih := compare_below l m (by simpa using h)
    unfold Lib.compareBytes belowB
    by_cases hab : a < b
    · have hne : a ≠ b := fun e => by subst e; exact absurd hab (UInt8.lt_irrefl a)
      simp [hab, hne]
    · by_cases hba : b < a
      · have hne : a ≠ b := fun e => by subst e; exact absurd hba (UInt8.lt_irrefl a)
        simp [hab, hba, hne]
      · have heq : a = b := UInt8.le_antisymm (UInt8.not_lt.1 hba) (UInt8.not_lt.1 hab)
        rw [if_neg hab, if_neg hba, if_pos heq]
        exact ih
  | [], _ :: _, h => by simp at h
  | _ :: _, [], h => by simp at h
end Go.Proofs.YtbcpmnnlhdgbhaaGreatDoor

namespace Go.Proofs.YtbcpmnnlhdgbhaaGreatDoor
open Go.RowKit

def BelPost (l m : List UInt8) (w : World) (e : Ending) (w' : World) : Prop := e = .returned (.bool (belowB l m)) ∧ Below w.heap.size w w'
theorem BelPost.mk {l m : List UInt8} {w w' : World} {b : Bool} (h : belowB l m = b) (hb : Below w.heap.size w w') : BelPost l m w (.returned (.bool b)) w' := ⟨by rw [h], hb⟩

end Go.Proofs.YtbcpmnnlhdgbhaaGreatDoor

namespace Go.Proofs.YtbcpmnnlhdgbhaaGreatDoor
open Go.RowKit

/-- A [][32]byte that reads hs. -/
def Hsh (w : World) (B : Nat) (A : Option Addr) (hs : List (List UInt8)) : Prop :=
  0 < hs.length → ∃ b off, A = some ⟨b, off, none⟩ ∧ b < B ∧ ∀ (i : Nat) (h : i < hs.length), hs[i].length = 32 ∧ w.rangeAt b (off + i * 32) (bvs hs[i])
theorem Hsh.at_ {w : World} {B : Nat} {A : Option Addr} {hs : List (List UInt8)} (h : Hsh w B A hs) {k : Nat} (hk : k < hs.length) : ∃ b off, A = some ⟨b, off, none⟩ ∧ b < B ∧ (∀ i (h : i < hs.length), ∃ l, Hid (hs[i] = l) ∧ l.length = 32 ∧ w.rangeAt b (off + i * 32) (bvs l) ∧ Reads w B 1 (some ⟨b, off + i * 32, none⟩) 32 (bvs l)) := by
  obtain ⟨b, off, h1, h2, h3⟩ := h (by omega)
  refine ⟨b, off, h1, h2, fun i hi => ⟨hs[i], rfl, (h3 i hi).1, (h3 i hi).2, ?_, fun _ => ⟨_, rfl, h2, fun j u hu => ?_⟩⟩⟩
  · rw [bvs_length]; have := (h3 i hi).1; omega
  · rw [add_none]; exact (h3 i hi).2 j u hu
theorem rangeAt_below {w w' : World} {B b o : Nat} {cs : List Value} (h : w.rangeAt b o cs) (hb : Below B w w') (hlt : b < B) : w'.rangeAt b o cs := fun j v hv => (hb.cell (p := ⟨b, o + j, none⟩) hlt).trans (h j v hv)
theorem Hsh.below {w w' : World} {B : Nat} {A : Option Addr} {hs : List (List UInt8)} (h : Hsh w B A hs) (hb : Below B w w') : Hsh w' B A hs := fun h0 => by
  obtain ⟨b, off, h1, h2, h3⟩ := h h0
  exact ⟨b, off, h1, h2, fun i hi => ⟨(h3 i hi).1, rangeAt_below (h3 i hi).2 hb h2⟩⟩
theorem Hsh.more {w : World} {B B' : Nat} {A : Option Addr} {hs : List (List UInt8)} (h : Hsh w B A hs) (hB : B ≤ B') : Hsh w B' A hs := fun h0 => by
  obtain ⟨b, off, h1, h2, h3⟩ := h h0
  exact ⟨b, off, h1, by omega, h3⟩

def ascP (hs : List (List UInt8)) (k : Nat) : Prop := ∀ i (h : i + 1 < hs.length), i + 1 < k → belowB hs[i] hs[i + 1] = true
def devP (hs : List (List UInt8)) : Prop := ascP hs hs.length ∧ hs.length ≤ 8
def DevPost (hs : List (List UInt8)) (w : World) (e : Ending) (w' : World) : Prop := ∃ b, e = .returned (.bool b) ∧ (b = true ↔ devP hs) ∧ Below w.heap.size w w'
theorem DevPost.no {hs : List (List UInt8)} {w w' : World} (h : ¬ devP hs) (hb : Below w.heap.size w w') : DevPost hs w (.returned (.bool false)) w' := ⟨false, rfl, by simp [h], hb⟩
theorem ascP_no {hs : List (List UInt8)} {k : Nat} {l m : List UInt8} (h : k + 1 < hs.length) (hl : hs[k] = l) (hm : hs[k + 1] = m) (hb : belowB l m = false) : ¬ devP hs := fun hd => by
  have := hd.1 k h (by omega)
  rw [hl, hm, hb] at this; cases this
theorem ascP_succ {hs : List (List UInt8)} {k : Nat} {l m : List UInt8} (ha : ascP hs (k + 1)) (h : k + 1 < hs.length) (hl : hs[k] = l) (hm : hs[k + 1] = m) (hb : belowB l m = true) : ascP hs (k + 2) := fun i hi hik => by
  by_cases hk : i = k
  · subst hk; rw [hl, hm]; exact hb
  · exact ha i hi (by omega)

theorem Compare_at {A A2 : Option Addr} {n c m c2 B B2 : Nat} {l l2 : List UInt8} {w : World} (hr : Reads w B 1 A n (bvs l)) (hr2 : Reads w B2 1 A2 m (bvs l2)) {x : Int} (hx : Lib.compareBytes l l2 = x) :
    Calls Tryz.prog 50 #[.slice A n c, .slice A2 m c2] w fun e w' => e = .returned (.int .i64 x) ∧ w' = w := by subst hx; exact Compare_any A A2 n c m c2 B B2 l l2 w hr hr2
set_option maxRecDepth 100000 in
set_option maxHeartbeats 1000000 in
theorem Devices_any (A : Option Addr) (c : Nat) (hs : List (List UInt8)) (w : World) (hh : Hsh w w.heap.size A hs) (hn : hs.length ≤ 140737488355328) :
    Calls Tryz.prog 20 #[.slice A hs.length c] w (DevPost hs w) := by
  go_enter Tryz.func20, Tryz.ntmps20
  go_wp2
  go_loopw [6] (fun i wr => ∃ k : Nat, k ≤ hs.length ∧ i = .int .i64 k ∧ Hid (ascP hs k) ∧ ∃ q, wr = w.drewN q) (fun i _ => hs.length - (intOf i).toNat)
  case atStart => exact ⟨0, Nat.zero_le _, rfl, fun i _ h => by omega, 0, rfl⟩
  case round =>
    obtain ⟨k, hk, rfl, hasc, q, rfl⟩ := hrel
    by_cases hlt : k < hs.length
    · have hlt' : (k : Int) < (hs.length : Int) := by omega
      by_cases h0 : (0 : Int) < (k : Int)
      · obtain ⟨b, off, rfl, hb, hall⟩ := hh.at_ hlt
        obtain ⟨k0, hk0⟩ : ∃ k0, k0 + 1 = k := ⟨k - 1, by omega⟩
        have hk1 : k0 < hs.length := by omega
        obtain ⟨l, hl, hl32, _, hrl⟩ := hall k0 hk1
        obtain ⟨m, hm, hm32, _, hrm⟩ := hall k hlt
        have Hk0 := Lib.hid hk0
        have hc := Lib.hid (compare_below l m (by omega))
        obtain ⟨x, hx⟩ : ∃ x, Lib.compareBytes l m = x := ⟨_, rfl⟩
        rw [hx] at hc
        have HX := Lib.hid hx
        have hsub : IntKind.i64.wrap ((k : Int) - 1) = (k0 : Int) := by rw [IntWalk.i64_in _ (by omega)]; omega
        have h0n : decide (0 < k) = true := by rw [decide_eq_true_iff]; omega
        have hlt0 : (k0 : Int) < (hs.length : Int) := by omega
        clear hall hl32 hm32 hx hk0
        by_cases hb1 : belowB l m = true
        · have hge : decide (0 ≤ x) = false := by rw [hc.out, hb1]; rfl
          have Hb1 := Lib.hid hb1
          clear hb1
          go_wp2
          go_quiet ((go_at_call 50; exact (Compare_at (hrl.drewN _) (hrm.drewN _) HX.out).mono fun e w2 h => ⟨h.1, _, h.2⟩))
          go_wp2
          go_roundw
          case rel => exact ⟨k + 1, by omega, by go_num, (by have e := Hk0.out; subst e; exact ascP_succ hasc.out hlt hl.out hm.out Hb1.out), _, rfl⟩
          case measure => simp [intOf]; omega
        · have hge : decide (0 ≤ x) = true := by rw [hc.out]; simpa using hb1
          have Hb1 := Lib.hid (by simpa using hb1 : belowB l m = false)
          clear hb1
          go_wp2
          go_quiet ((go_at_call 50; exact (Compare_at (hrl.drewN _) (hrm.drewN _) HX.out).mono fun e w2 h => ⟨h.1, _, h.2⟩))
          go_wp2
          go_ret
          exact DevPost.no (by have e := Hk0.out; subst e; exact ascP_no hlt hl.out hm.out Hb1.out) (below_drewN (below_drewN (Below.refl _ _) _) _)
      · have h0' : decide ((0 : Int) < (k : Int)) = false := by simpa using h0
        obtain rfl : k = 0 := by omega
        go_wp2
        go_quiet (fail)
        go_wp2
        go_roundw
        case rel => exact ⟨1, by omega, by go_num, fun i _ h => by omega, _, rfl⟩
        case measure => simp [intOf]; omega
    · obtain rfl : k = hs.length := by omega
      go_wp2
      go_ret
      exact ⟨_, rfl, by rw [decide_eq_true_iff]; exact ⟨fun h => ⟨hasc.out, by omega⟩, fun h => by have := h.2; omega⟩, below_drewN (Below.refl _ _) _⟩
end Go.Proofs.YtbcpmnnlhdgbhaaGreatDoor

namespace Go.Proofs.YtbcpmnnlhdgbhaaGreatDoor
open Go.RowKit
theorem own8_some {w : World} {base n : Nat} {v : Value} {l : List UInt8} (h : Own8 w base v l) (hl : l.length = n) (hn : 0 < n) : ∃ g c, v = .slice (some ⟨g, 0, none⟩) n c ∧ base ≤ g ∧ g < w.heap.size ∧ n ≤ c := by
  subst hl; exact row_slice h hn
theorem app_256 (K : List Int) (l : List UInt8) (h : l.length ≤ 1000) : appV K (List.replicate 256 zero64) false 1 [] l = (0, syncAll (List.replicate 256 zero64) (placeL 1 (frameS K 0 l)), 1 + secsN l.length, [l]) := by
  unfold appV
  rw [if_neg (by omega), if_neg (by rw [List.length_replicate]; unfold secsN; rintro (h | h); omega; cases h)]
  rfl
set_option maxRecDepth 100000 in
set_option maxHeartbeats 2000000 in
theorem Apply_kv {w : World} {base gd gl gs m b : Nat} {own : Nat → Prop} (hL : LG w base own gd gl (dst (List.replicate 256 zero64) false 0) ((1 : Nat) : Int) []) (hs : StoreAt w gs gl m) (hm : w.heap[m]? = some (.map #[] 0)) (hB : BatchAt w b) (hgs : ¬ own gs) (hom : ¬ own m) (hob : ¬ own b) (K : List Int) (hkt : KT w K) (hbase : 0 < base) :
    Calls Tryz.prog 24 #[.pointer (some ⟨gs, 0, none⟩), .slice (some ⟨b, 0, none⟩) 1 1] w fun e w' => e = .returned (.int .i64 0) ∧ StoreAt w' gs gl m ∧ w'.heap[m]? = some (.map #[ent] 1) ∧ Turns (fun k => own k ∨ k = m) w w' := by
  have HL := Lib.hid hL
  have HS := Lib.hid hs
  have HM := Lib.hid hm
  have HB := Lib.hid hB
  have HGS := Lib.hid hgs
  have HOM := Lib.hid hom
  have HOB := Lib.hid hob
  have HK := Lib.hid hkt
  have HBA := Lib.hid hbase
  have hsm : gs ≠ m := by rintro rfl; unfold StoreAt at hs; rw [hs] at hm; cases hm
  have HSM := Lib.hid hsm
  clear hL hs hm hB hgs hom hob hkt hsm hbase
  go_enter Tryz.func24, Tryz.ntmps24
  go_wp2_with (first
    | (go_at_call 51; go_must (refine (right_kv b w HB.out).mono ?_; rintro e w1 ⟨rfl, hb1⟩; have H1 := Lib.hid hb1; clear hb1)))
  refine AnyC.startB (fun w' => Turns own w w') (by kernel_rfl) rfl ?_
  intro w2 hb2 _
  have H2 : Hid (Below w.heap.size w w2) := H1.out.trans (hb2.mono H1.out.size)
  have HT2 : Hid (Turns own w w2) := Turns.of_below H2.out
  clear hb2
  have CS : Hid (∀ w', Turns own w w' → w'.cell? ⟨gs, 0, none⟩ = some (.pointer (some ⟨gl, 0, none⟩))) := fun w' hT => (World.cell?_of_block (a := ⟨gs, 0, none⟩) (hT.block gs (held_lt (show w.heap[gs]? = _ from HS.out)) HGS.out)).trans HS.out.cells.1
  apply AnyC.take (i := 0) rfl (by kernel_rfl) rfl
  · intro w' hC K hK
    go_wp2
    exact hK
  · rfl
  apply AnyC.take (i := 1) rfl (by kernel_rfl) rfl
  · intro w' hC K hK
    go_wp2
    exact hK
  · rfl
  apply AnyC.take (i := 2) rfl (by kernel_rfl) rfl
  · intro w' hC K hK
    go_wp2
    exact hK
  · rfl
  apply AnyC.take (i := 3) rfl (by kernel_rfl) rfl
  · intro w' hC K hK
    have cc := CS.out w' hC
    go_wp2
    exact hK
  · rfl
  apply AnyC.take (i := 4) rfl (by kernel_rfl) rfl
  · intro w' hC K hK
    go_wp2
    exact hK
  · rfl
  apply AnyC.solo (i := 5) rfl (by kernel_rfl) HT2.out
  go_wp2_with (go_at_call 53; go_must (refine (record_kv b w2 (HB.out.bel H2.out)).mono ?_; rintro e w3 ⟨v3, rfl, ho3, hb3⟩; have H3 := Lib.hid (And.intro ho3 hb3); clear ho3 hb3))
  refine ⟨rfl, ?_⟩
  obtain ⟨A3, c3, rfl, hc3, hr3⟩ := own8_form' H3.out.1 (n := 41) (by decide +kernel)
  have HB3 : Hid (Below w.heap.size w w3) := H2.out.trans (H3.out.2.mono H2.out.size)
  have HR3 := Lib.hid (And.intro hc3 hr3)
  clear hc3 hr3
  have HV : Hid (appV K (List.replicate 256 zero64) false 1 [] (encB [one4]) = (0, syncAll (List.replicate 256 zero64) (placeL 1 (frameS K 0 (encB [one4]))), 1 + secsN (encB [one4]).length, [encB [one4]])) := app_256 K _ (by decide +kernel)
  have HA : Hid (∀ ad, A3 = some ad → ad.block < w3.heap.size ∧ ¬ own ad.block) := by
    show ∀ _, _
    intro ad e
    obtain ⟨g_, c_, e2, h1, h2, _⟩ := own8_some H3.out.1 (n := 41) (by decide +kernel) (by decide)
    cases e2
    cases e
    exact ⟨h2, fun h_ => Nat.lt_irrefl _ (Nat.lt_of_lt_of_le (HL.out.lt h_) (Nat.le_trans H2.out.size h1))⟩
  apply AnyC.solo (i := 6) rfl (by kernel_rfl) (Turns.of_below HB3.out)
  go_wp2_with (go_at_call 52; go_must (refine (Append_any (HL.out.below HB3.out) K A3 41 c3 (encB [one4]) HR3.out.2 (fun _ ad e_ => HA.out ad e_) HR3.out.1 (by simp) (by omega) (HK.out.bel HB3.out)).mono ?_; rintro e w4 ⟨f4, rfl, own4, hL4, hT4, hO4⟩; rw [HV.out] at hL4 ⊢; have HT4 : Hid (Turns own w w4) := (by show Turns _ _ _; exact (Turns.of_below HB3.out).trans hT4); clear hL4 hT4 hO4))
  refine ⟨rfl, ?_⟩
  apply AnyC.solo (i := 7) rfl (by kernel_rfl) HT4.out
  go_wp2
  refine ⟨rfl, ?_⟩
  refine AnyC.done HT4.out (by kernel_rfl) ?_
  have CM : Hid (w4.heap[m]? = some (.map #[] 0)) := (HT4.out.block m (held_lt HM.out) HOM.out).trans HM.out
  have CB : Hid (BatchAt w4 b) := (HT4.out.block b (held_lt (show w.heap[b]? = _ from HB.out)) HOB.out).trans HB.out
  have CS4 : Hid (StoreAt w4 gs gl m) := (HT4.out.block gs (held_lt (show w.heap[gs]? = _ from HS.out)) HGS.out).trans HS.out
  obtain ⟨cc0, cc1⟩ := CS4.out.cells
  go_wp2_with (go_at_call 54; go_must (refine (apply_kv b m w4 CB.out CM.out).mono ?_; rintro e w5 ⟨rfl, hm5, hT5⟩; have H5 := Lib.hid (And.intro hm5 hT5); clear hm5 hT5))
  go_ret
  refine ⟨rfl, (H5.out.2.block gs (held_lt (show w4.heap[gs]? = _ from CS4.out)) HSM.out).trans CS4.out, H5.out.1, (HT4.out.more (fun k h => .inl h)).trans (H5.out.2.more (fun k h => .inr h))⟩
end Go.Proofs.YtbcpmnnlhdgbhaaGreatDoor
