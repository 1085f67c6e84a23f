/- The texts W3 W4 W5 Args of this work, merged by wip/merge.py. No conditions. -/
import Derived.Test.YtbpgbihcihnieaaQBase
import Derived.Test.YtbpgbihcihnieaaQW1
import Derived.Deep.DeepMust
import Derived.Deep.LoopGhost
import Derived.Lib.SlBytesConst
import Derived.OpenShut
import Derived.ProofKit
import Derived.SizedLaws
import Derived.Deep.Slices
namespace Go.Proofs.Ytbpgbihcihnieaa
open Go.RowKit

def CopyPost (ls : List (List UInt8)) (w : World) (e : Ending) (w' : World) : Prop := ∃ v, e = .returned v ∧ OwnL w' w.heap.size v ls ∧ Below w.heap.size w w'

set_option maxRecDepth 100000 in
set_option maxHeartbeats 1000000 in
theorem copyList_any (A : Option Addr) (c : Nat) (ls : List (List UInt8)) (w : World) (hl : Lists w w.heap.size A ls) (hn : ls.length * 24 ≤ 140737488351232) (hm : ∀ l ∈ ls, l.length ≤ 140737488351232) :
    Calls Try.prog 15 #[.slice A ls.length c] w (CopyPost ls w) := by
  go_enter Try.func15, Try.ntmps15
  go_wp2
  go_loopw [3, 7] (fun v i wr => ∃ k : Nat, k ≤ ls.length ∧ i = .int .i64 k ∧ OwnL wr w.heap.size v (ls.take k) ∧ Below w.heap.size w wr) (fun _ i _ => ls.length - (intOf i).toNat)
  case atStart => exact ⟨0, Nat.zero_le _, rfl, OwnL.nil _ _, Below.refl _ _⟩
  case round =>
    obtain ⟨k, hk, rfl, hown, hbw⟩ := hrel
    by_cases hlt : k < ls.length
    · obtain ⟨l, b, off, A', c', hlk, rfl, hb, hcell, hc', hr⟩ := hl.at_b hbw k hlt
      have hml := hm l (by rw [← hlk.out]; exact List.getElem_mem hlt)
      have hts := Lib.hid (List.take_succ_eq_append_getElem hlt)
      have hbz : b < wr.heap.size := Nat.lt_of_lt_of_le hb hbw.size
      have tok1 : True := trivial
      go_wp2_with (first
        | (at_builtin; have _t := tok1; go_must (refine app8 rfl rfl rfl rfl (own8_zero wr wr.heap.size (Nat.le_refl _)) (hr.below (hbw.alloc hbw.size _)) (by simp; omega) (by simp) ?_; intro v1 w1 hown1 hg1 hx1; have hb1 : Below wr.heap.size wr w1 := below_own8 ((Below.refl _ _).alloc (Nat.le_refl _) _) (own8_zero wr wr.heap.size (Nat.le_refl _)) hg1; clear tok1; simp only [List.nil_append] at hown1; obtain ⟨A1, c1, rfl, hc1, _⟩ := own8_form hown1))
        | (at_builtin; go_must (refine appL rfl rfl rfl rfl hown (by rw [cell_new]; rfl) (hb1.alloc hb1.size _) (own8_below hown1 ((Below.refl _ _).alloc (Nat.le_refl _) _)) (by rw [List.length_take]; omega) hbw.size ?_; intro v2 w2 hown2 hg2; have hb2 := below_ownL (hbw.trans ((hb1.alloc hb1.size _).mono hbw.size)) (hown.below (hb1.alloc hb1.size _)) hg2)))
      go_roundw
      case rel => exact ⟨k + 1, by omega, by go_num, by rw [hts.out, hlk.out]; exact hown2, hb2⟩
      case measure => simp [intOf]; omega
    · obtain rfl : k = ls.length := by omega
      go_wp2
      go_ret
      exact ⟨_, rfl, by simpa using hown, hbw⟩
end Go.Proofs.Ytbpgbihcihnieaa

namespace Go.Proofs.Ytbpgbihcihnieaa
open Go.RowKit

def AccPost (s : ByteArray) (w : World) (e : Ending) (w' : World) : Prop := e = .returned (.bool (accOK s.data.toList)) ∧ Below w.heap.size w w'
theorem AccPost.mk {s : ByteArray} {w w' : World} {b : Bool} (hb : Below w.heap.size w w') (h : accOK s.data.toList = b) : AccPost s w (.returned (.bool b)) w' := ⟨by rw [h], hb⟩

theorem decide_ok (s : ByteArray) (k : Nat) (h : k < s.size) : (okR (Utf8.decode s k).1 → (Utf8.decode s k).2 = 1 ∧ accB s[k] = true) ∧ (¬ okR (Utf8.decode s k).1 → accB s[k] = false) := by
  by_cases ha : (s[k]'h).toNat < 128
  · rw [decode_ascii s k h ha]
    exact ⟨fun h1 => ⟨rfl, accB_yes h1⟩, fun h1 => accB_no h1⟩
  · have hd := decode_high s k h (by omega)
    exact ⟨fun h1 => by have := okR_lt h1; omega, fun _ => accB_no fun h1 => by have := okR_lt h1; omega⟩

theorem acc_nil (s : ByteArray) (h : s.toList = []) : (decide (1 ≤ s.data.toList.length) && decide (s.data.toList.length ≤ 32)) = false := by
  rw [ByteArray.toList_eq] at h; simp [h]
theorem acc_val (s : ByteArray) : (decide (1 ≤ s.data.toList.length) && decide (s.data.toList.length ≤ 32)) = (!s.toList.isEmpty && decide ((s.size : Int) ≤ 32)) := by
  have h2 : s.size = s.data.toList.length := Array.length_toList.symm
  rw [ByteArray.toList_eq, h2]
  cases s.data.toList with
  | nil => rfl
  | cons a l =>
    have h1 : decide (1 ≤ (a :: l).length) = true := by simp
    rw [h1]
    simp only [List.isEmpty_cons, Bool.not_false, Bool.true_and]
    rw [Bool.eq_iff_iff]; simp; omega

theorem acc_val1 (s : ByteArray) (h : (1 : Int) ≤ s.size) : (decide (1 ≤ s.data.toList.length) && decide (s.data.toList.length ≤ 32)) = decide ((s.size : Int) ≤ 32) := by
  have h2 : s.data.toList.length = s.size := Array.length_toList
  rw [h2, Bool.eq_iff_iff]; simp; omega
theorem acc_val0 (s : ByteArray) (h : (s.size : Int) < 1) : (decide (1 ≤ s.data.toList.length) && decide (s.data.toList.length ≤ 32)) = false := by
  have h2 : s.data.toList.length = s.size := Array.length_toList
  rw [h2]; simp; omega
set_option maxRecDepth 100000 in
set_option maxHeartbeats 1000000 in
theorem Account_any (s : ByteArray) (w : World) : Calls Try.prog 16 #[.string s] w (AccPost s w) := by
  have hsl : s.data.toList.length = s.size := Array.length_toList
  have Hsl := Lib.hid hsl; clear hsl
  go_enter Try.func16, Try.ntmps16
  go_wp2
  go_loopg [4] s.size (fun n v wr => ∃ k : Nat, k ≤ s.size ∧ n = s.size - k ∧ wr = w.iter s k ∧ ∀ (j : Nat) (h : j < s.data.toList.length), j < k → accB s.data.toList[j] = true)
  case atStart => exact ⟨0, Nat.zero_le _, rfl, rfl, fun j _ h => by omega⟩
  case round =>
    obtain ⟨k, hk, hn, rfl, hall⟩ := hrel
    have Hall := Lib.hid hall; clear hall
    have Hn := Lib.hid hn; clear hn
    by_cases hlt : k < s.size
    · obtain ⟨hyes, hno⟩ := decide_ok s k hlt
      have hnx := fun ty => run_next_any (P := Try.prog) w s k ty hlt
      have hx := decode_le s k
      generalize Utf8.decode s k = p at *
      obtain ⟨x, d⟩ := p
      dsimp only at hyes hno hnx hx
      by_cases hok : okR x
      · obtain ⟨rfl, hacc⟩ := hyes hok
        clear hyes hno
        have hok' := hok
        unfold okR at hok'
        clear hok
        rcases hok' with ⟨h1, h2⟩ | ⟨h1, h2⟩ | rfl | rfl | rfl
        all_goals
          go_wp2
          go_roundg (s.size - (k + 1))
          case measure => have := Hn.out; omega
          case rel =>
            refine ⟨k + 1, by omega, rfl, rfl, fun j hj hjk => ?_⟩
            by_cases hjk' : j = k
            · subst hjk'; exact hacc
            · exact Hall.out j hj (by omega)
      · have hacc := hno hok
        clear hyes hno
        unfold okR at hok
        go_wp2
        all_goals
          go_ret
          exact AccPost.mk ((Below.refl _ _).alloc (Nat.le_refl _) _) (accOK_no (k := k) (by have := Hsl.out; omega) hacc)
    · have hnx := fun ty => run_next_end (P := Try.prog) w s k ty hlt
      obtain rfl : k = s.size := by omega
      have hend := Lib.hid (accOK_end (l := s.data.toList) fun k hk => Hall.out k hk (by have := Hsl.out; omega))
      go_wp2
      · have he : s.toList = [] := by assumption
        go_ret
        exact AccPost.mk ((Below.refl _ _).alloc (Nat.le_refl _) _) (hend.out.trans (acc_nil s he))
      · go_ret
        exact AccPost.mk ((Below.refl _ _).alloc (Nat.le_refl _) _) (hend.out.trans (acc_val s))

/-- The reference's Account. -/
theorem rAccount_any (s : ByteArray) (w : World) (hs : s.size ≤ 9223372036854775807) : Calls Try.prog 17 #[.string s] w (AccPost s w) := by
  have hsl : s.data.toList.length = s.size := Array.length_toList
  have Hsl := Lib.hid hsl; clear hsl
  go_enter Try.func17, Try.ntmps17
  go_wp2
  go_loop [3] (fun i => ∃ k : Nat, k ≤ s.size ∧ i = .int .i64 k ∧ ∀ (j : Nat) (h : j < s.data.toList.length), j < k → accB s.data.toList[j] = true) (fun i => s.size - (intOf i).toNat)
  case atStart => exact ⟨0, Nat.zero_le _, rfl, fun j _ h => by omega⟩
  case round =>
    obtain ⟨k, hk, rfl, hall⟩ := hrel
    have Hall := Lib.hid hall; clear hall
    by_cases hlt : k < s.size
    · have hbk : (s[k]'hlt).toNat < 256 := (s[k]'hlt).toNat_lt
      by_cases hok : okR (s[k]'hlt).toNat
      · have hacc := Lib.hid (accB_yes hok)
        have hok' := hok
        unfold okR at hok'
        clear hok
        rcases hok' with ⟨h1, h2⟩ | ⟨h1, h2⟩ | h1 | h1 | h1
        all_goals
          go_wp2
          go_round
          case rel =>
            refine ⟨k + 1, by omega, by go_num, fun j hj hjk => ?_⟩
            by_cases hjk' : j = k
            · subst hjk'; exact hacc.out
            · exact Hall.out j hj (by omega)
          case measure => simp [intOf]; omega
      · have hacc := Lib.hid (accB_no hok)
        unfold okR at hok
        have hc : (97 ≤ (s[k]'hlt).toNat ∧ 122 < (s[k]'hlt).toNat) ∨ ((s[k]'hlt).toNat < 97 ∧ 48 ≤ (s[k]'hlt).toNat ∧ 57 < (s[k]'hlt).toNat ∧ (s[k]'hlt).toNat ≠ 95) ∨ ((s[k]'hlt).toNat < 48 ∧ (s[k]'hlt).toNat ≠ 46 ∧ (s[k]'hlt).toNat ≠ 45) := by omega
        clear hok
        rcases hc with ⟨h1, h2⟩ | ⟨h1, h2, h3, h4⟩ | ⟨h1, h2, h3⟩
        all_goals
          have h5 : (((s[k]'hlt).toNat : Int) == 45) = false := beq_false_of_ne (by omega)
          go_wp2
          all_goals first
            | (exfalso; omega)
            | (exfalso; rename_i hq; simp at hq; omega)
            | (go_ret; exact AccPost.mk (Below.refl _ _) (accOK_no (k := k) (by have := Hsl.out; omega) hacc.out))
    · obtain rfl : k = s.size := by omega
      have hend := Lib.hid (accOK_end (l := s.data.toList) fun k hk => Hall.out k hk (by have := Hsl.out; omega))
      go_wp2
      · have h1 : (1 : Int) ≤ s.size := by assumption
        go_ret
        exact AccPost.mk (Below.refl _ _) (hend.out.trans (acc_val1 s h1))
      · have h1 : (s.size : Int) < 1 := by assumption
        go_ret
        exact AccPost.mk (Below.refl _ _) (hend.out.trans (acc_val0 s h1))
end Go.Proofs.Ytbpgbihcihnieaa

namespace Go.Proofs.Ytbpgbihcihnieaa
open Go.RowKit

def ab : List UInt8 := [97, 98]
theorem awake_lists (w : World) (B : Nat) (A : Option Addr) (c : Nat) (hr : Reads w B 1 A 2 (bvs ab)) (hc : 2 ≤ c) (g : Nat) (hB : g < B) (h0 : w.cell? ⟨g, 0, none⟩ = some (.slice A 2 c)) (h1 : w.cell? ⟨g, 1, none⟩ = some (.slice none 0 0)) :
    Lists w B (some ⟨g, 0, none⟩) [ab, []] := by
  refine ⟨[.slice A 2 c, .slice none 0 0], ⟨rfl, fun _ => ⟨_, rfl, hB, fun j u hj => ?_⟩⟩, fun i hi => ?_⟩
  · rw [add_none]
    match j, hj with
    | 0, hj => simp at hj; subst hj; exact h0
    | 1, hj => simp at hj; subst hj; exact h1
  · match i, hi with
    | 0, _ => exact ⟨A, c, rfl, hc, hr⟩
    | 1, _ => exact ⟨none, 0, rfl, by simp, Reads.none_⟩
theorem awake_encB : encB [ab, []] = [0, 0, 0, 2, 0, 0, 0, 2, 97, 98, 0, 0, 0, 0] := by decide
theorem awake_encE : encE [ab, []] = 0 := by decide

theorem reads_two (w : World) (fr : Nat × Nat) (o : Obj) : Reads ((w.alloc (.cells #[.int .u8 97, .int .u8 98] 5 fr)).alloc o) (w.heap.size + 1 + 1) 1 (some ⟨w.heap.size, 0, none⟩) 2 (bvs ab) := by
  refine ⟨rfl, fun _ => ⟨_, rfl, by simp; omega, fun j u hj => ?_⟩⟩
  rw [add_none, World.cell?_alloc_lt _ _ _ (by simp), World.cell?_alloc_mark]
  simpa [bvs, ab, bv] using hj
set_option maxRecDepth 100000 in
set_option maxHeartbeats 1000000 in
theorem awake_any (w : World) : Calls Try.prog 12 #[] w fun e w' => e = .returned (.bool true) ∧ Below w.heap.size w w' := by
  have kc := fun (w : World) (C : Array Value) (n c : Nat) => Lib.run_convert_bytes_const (P := Try.prog) w 24 5 C n c Try.underlying24 Try.underlying5
  go_enter Try.func12, Try.ntmps12
  go_wp2_with (first
    | (go_at_call 14; go_must (refine (Encode_any _ _ [ab, []] _ (by simp only [World.size_alloc]; exact awake_lists _ _ (some ⟨w.heap.size, 0, none⟩) 2 (reads_two _ _ _) (by simp) (w.heap.size + 1) (by simp) (cell_at (by simp) rfl) (cell_at (by simp) rfl)) (by simp)).mono ?_; rintro e w1 ⟨v, rfl, hown, hb⟩; rw [awake_encE, awake_encB] at *; obtain ⟨A, c, rfl, hc, hr⟩ := own8_form hown; have hstr := run_str8 (n := 14) hr c; have hb1 : Below w.heap.size w w1 := (((Below.refl _ _).alloc (Nat.le_refl _) _).alloc (by simp) _).trans (hb.mono (by simp; omega))))
    | (go_at_call 16; go_must (refine (Account_any _ _).mono ?_; rintro e w2 ⟨rfl, hb2⟩; have hb3 := hb1.trans (hb2.mono hb1.size))))
  go_ret
  exact ⟨by show Ending.returned (.bool (accOK [97])) = _; rw [show accOK [97] = true from by decide], hb3⟩
end Go.Proofs.Ytbpgbihcihnieaa

namespace Go.Proofs.Ytbpgbihcihnieaa
open Go.RowKit Go.ChangeShapes Go.WideShapes Go.Deep
section
variable {H : Type} {enc : TypeId × Value → H} {w : World} {base : Nat} {held : Bool}
theorem cells8 : Try.prog.cellsOf 5 = 1 := by kernel_rfl
theorem cellsB : Try.prog.cellsOf 24 = 1 := by kernel_rfl
theorem bytes8 : Try.prog.bytesOf 5 = 1 := by kernel_rfl
theorem bytesB : Try.prog.bytesOf 24 = 24 := by kernel_rfl

theorem bvs_of_ints (zs : List Int) (h : ∀ n ∈ zs, (Lit.int .u8 n).wf = true) : bvs (zs.map fun n => UInt8.ofNat n.toNat) = zs.map (Value.int .u8) := by
  simp only [bvs, List.map_map]
  apply List.map_congr_left
  intro n hn
  have := bounds_u8 (h n hn)
  simp only [Function.comp, bv]
  congr 1
  rw [UInt8.toNat_ofNat']
  omega

theorem reach_eq : reachBytes = 140737488351232 := rfl
/-- What a walk is told of an argument: a []byte; a [][]byte; a string; a uint64. -/
def ArgB (w : World) (v : Value) (l : List UInt8) : Prop := ∃ A c, v = .slice A l.length c ∧ l.length ≤ c ∧ Reads w w.heap.size 1 A l.length (bvs l) ∧ l.length ≤ reachBytes
def ArgL (w : World) (v : Value) (ls : List (List UInt8)) : Prop := ∃ A c, v = .slice A ls.length c ∧ ls.length ≤ c ∧ Lists w w.heap.size A ls ∧ ls.length * 24 ≤ reachBytes ∧ ∀ l ∈ ls, l.length ≤ reachBytes
def ArgS (v : Value) (s : ByteArray) : Prop := v = .string s ∧ s.size ≤ reachBytes
def ArgU (v : Value) (n : Nat) : Prop := v = .int .u64 (n : Int) ∧ n < 18446744073709551616

theorem open_bytes {fuel : Nat} {cs : List Value} {x : DataW H × List MemPlace} (h : DataW.trod enc Try.prog w base (fun _ => true) held fuel 24 cs = some x) :
    ∃ A c l, cs = [.slice A l.length c] ∧ l.length ≤ c ∧ Reads w w.heap.size 1 A l.length (bvs l) ∧ ∀ R, (x.1.weights Try.prog 24).all (· ≤ R) = true → l.length ≤ R := by
  rcases open_ints Try.underlying24 Try.underlying5 cells8 h with ⟨hcs, hx⟩ | ⟨a, len, cap, zs, hcs, _, hl, hm, hz, hx, hcell, hwz⟩
  · exact ⟨none, 0, [], hcs, Nat.le_refl _, Reads.none_, fun R _ => Nat.zero_le _⟩
  · simp only [if_true] at hz
    have hlen : ((zs.take len).map fun n => UInt8.ofNat n.toNat).length = len := by simp; omega
    refine ⟨some a, cap, (zs.take len).map fun n => UInt8.ofNat n.toNat, by rw [hlen]; exact hcs, by rw [hlen]; exact hl, ?_, ?_⟩
    · rw [bvs_of_ints _ (fun n hn => hwz n (List.mem_of_mem_take hn)), hlen]
      refine ⟨by simp; omega, fun h0 => ⟨a, rfl, ?_, fun j u hu => ?_⟩⟩
      · have h1 := World.block_lt_of_cell? w _ (hcell 0 (by omega))
        rwa [block_of_add] at h1
      · have hj : j < len := by
          have := (List.getElem?_eq_some_iff.1 hu).1
          simp at this; omega
        rw [hcell j (by omega)]
        simp [hj, List.getElem?_eq_getElem (show j < zs.length by omega)] at hu
        simp [List.getElem?_eq_getElem (show j < zs.length by omega), hu]
    · intro R hR
      rw [hlen]
      rw [hx] at hR
      have := List.all_eq_true.1 hR (zs.length * 1) (by simp [DataW.weights, Try.underlying24, bytes8, lits]; omega)
      simp at this; omega

theorem open_lists {fuel : Nat} {cs : List Value} {x : DataW H × List MemPlace} (h : DataW.trod enc Try.prog w base (fun _ => true) held fuel 22 cs = some x) :
    ∃ A c ls, cs = [.slice A ls.length c] ∧ ls.length ≤ c ∧ Lists w w.heap.size A ls ∧ ∀ R, (x.1.weights Try.prog 22).all (· ≤ R) = true → ls.length * 24 ≤ R ∧ ∀ l ∈ ls, l.length ≤ R := by
  rcases open_slice1 Try.underlying22 cellsB h with ⟨hcs, hx⟩ | ⟨a, len, cap, m, n, V, D, Pl, hcs, _, hl, hm, hmm, hx, hi⟩
  · exact ⟨none, 0, [], hcs, Nat.le_refl _, ⟨[], Reads.none_, fun i hi => by simp at hi⟩, fun R _ => ⟨by simp, fun l hl => by cases hl⟩⟩
  · simp only [if_true] at hmm
    have hmm' := hmm.symm
    subst hmm'
    have each : ∀ r, r < cap → ∃ y : Option Addr × Nat × List UInt8, V r = .slice y.1 y.2.2.length y.2.1 ∧ y.2.2.length ≤ y.2.1 ∧ Reads w w.heap.size 1 y.1 y.2.2.length (bvs y.2.2) ∧ ∀ R, ((D r).weights Try.prog 24).all (· ≤ R) = true → y.2.2.length ≤ R := by
      intro r hr
      obtain ⟨A, c, l, h1, h2, h3, h4⟩ := open_bytes (hi r hr).2
      exact ⟨(A, c, l), by simpa using h1, h2, h3, h4⟩
    obtain ⟨y, hy⟩ := choose_lt each
    have hlen : ((List.range len).map fun i => (y i).2.2).length = len := by simp
    refine ⟨some a, cap, (List.range len).map fun i => (y i).2.2, by rw [hlen]; exact hcs, by rw [hlen]; exact hl, ⟨(List.range len).map V, ?_, ?_⟩, ?_⟩
    · rw [hlen]
      refine ⟨by simp, fun h0 => ⟨a, rfl, ?_, fun j u hu => ?_⟩⟩
      · have h1 := World.block_lt_of_cell? w _ (hi 0 (by omega)).1
        rwa [block_of_add] at h1
      · have hj : j < len := by
          have := (List.getElem?_eq_some_iff.1 hu).1
          simp at this; omega
        rw [(hi j (by omega)).1]
        simp [hj] at hu
        rw [hu]
    · intro i hil
      have hj : i < len := by simpa using hil
      obtain ⟨h1, h2, h3, _⟩ := hy i (by omega)
      refine ⟨(y i).1, (y i).2.1, ?_, ?_, ?_⟩
      · simp [hj, h1]
      · simpa using h2
      · simpa using h3
    · intro R hR
      rw [hlen]
      rw [hx] at hR
      have hR' := List.all_eq_true.1 hR
      refine ⟨?_, fun l hl' => ?_⟩
      · have := hR' (cap * 24) (by simp [DataW.weights, Try.underlying22, bytesB]; omega)
        simp at this; omega
      · obtain ⟨i, hil, rfl⟩ := List.mem_map.1 hl'
        have hj : i < len := by simpa using hil
        refine (hy i (by omega)).2.2.2 R (List.all_eq_true.2 fun m hm' => hR' m ?_)
        simp only [DataW.weights, Try.underlying22]
        refine List.mem_cons_of_mem _ (List.mem_append.2 (.inl ?_))
        have : ∀ (ds : List (DataW H)) (d : DataW H), d ∈ ds → m ∈ d.weights Try.prog 24 → m ∈ DataW.weightsAll Try.prog 24 ds := by
          intro ds
          induction ds with
          | nil => intro d hd; cases hd
          | cons e es ih =>
            intro d hd hm
            simp only [DataW.weightsAll]
            rcases List.mem_cons.1 hd with rfl | hd
            · exact List.mem_append.2 (.inl hm)
            · exact List.mem_append.2 (.inr (ih d hd hm))
        exact this _ (D i) (List.mem_map.2 ⟨i, by simpa using hj, rfl⟩) hm'

theorem weights_head {t : TypeId} {ts : List TypeId} {d : DataW H} {r : List (DataW H)} {p : Nat → Bool} (h : (DataW.weightsEach Try.prog (t :: ts) (d :: r)).all p = true) : (d.weights Try.prog t).all p = true ∧ (DataW.weightsEach Try.prog ts r).all p = true := by
  simp only [DataW.weightsEach, List.all_append, Bool.and_eq_true] at h
  exact h
variable {r : Reach} {b0 : Nat} {v : Value} {d : DataW H} {p : List MemPlace}
set_option maxRecDepth 100000 in
theorem arg_bytes (hv : Value.okWide Try.prog w r b0 24 v) (h : DataW.Trod enc Try.prog w base (fun _ => true) held 24 v d p) (hs : (d.weights Try.prog 24).all (· ≤ reachBytes) = true) : ∃ l, ArgB w v l := by
  obtain ⟨fuel, hf⟩ := h
  obtain ⟨A, c, l, hcs, hle, hr, hR⟩ := open_bytes hf
  obtain ⟨A', n', c', rfl⟩ := okWide_slice Try.underlying24 hv
  have hcs' : [Value.slice A' n' c'] = [Value.slice A l.length c] := hcs
  simp only [List.cons.injEq, Value.slice.injEq, and_true] at hcs'
  obtain ⟨rfl, rfl, rfl⟩ := hcs'
  exact ⟨l, _, _, rfl, hle, hr, hR _ hs⟩
set_option maxRecDepth 100000 in
theorem arg_lists (hv : Value.okWide Try.prog w r b0 22 v) (h : DataW.Trod enc Try.prog w base (fun _ => true) held 22 v d p) (hs : (d.weights Try.prog 22).all (· ≤ reachBytes) = true) : ∃ ls, ArgL w v ls := by
  obtain ⟨fuel, hf⟩ := h
  obtain ⟨A, c, l, hcs, hle, hr, hR⟩ := open_lists hf
  obtain ⟨A', n', c', rfl⟩ := okWide_slice Try.underlying22 hv
  have hcs' : [Value.slice A' n' c'] = [Value.slice A l.length c] := hcs
  simp only [List.cons.injEq, Value.slice.injEq, and_true] at hcs'
  obtain ⟨rfl, rfl, rfl⟩ := hcs'
  exact ⟨l, _, _, rfl, hle, hr, (hR _ hs).1, (hR _ hs).2⟩
set_option maxRecDepth 100000 in
theorem arg_string (hv : Value.okWide Try.prog w r b0 9 v) (h : DataW.Trod enc Try.prog w base (fun _ => true) held 9 v d p) (_hs : (d.weights Try.prog 9).all (· ≤ reachBytes) = true) : ∃ s, ArgS v s := by
  obtain ⟨s, rfl, rfl, rfl, hw⟩ := Go.ChangeMaps.open_string Try.underlying9 hv h
  refine ⟨s, rfl, ?_⟩
  have h1 : decide (s.data.toList.length ≤ reachBytes) = true := List.all_eq_true.1 _hs s.data.toList.length (by unfold DataW.weights; exact List.mem_cons_self)
  have h2 : s.data.toList.length = s.size := Array.length_toList
  rw [← h2]
  exact of_decide_eq_true h1
set_option maxRecDepth 100000 in
theorem arg_u64 (hv : Value.okWide Try.prog w r b0 34 v) (h : DataW.Trod enc Try.prog w base (fun _ => true) held 34 v d p) (_hs : (d.weights Try.prog 34).all (· ≤ reachBytes) = true) : ∃ n, ArgU v n := by
  obtain ⟨x, rfl, rfl, rfl, wx⟩ := open_int Try.underlying34 hv h
  have := bounds_u64 wx
  exact ⟨x.toNat, by rw [Int.toNat_of_nonneg this.1], by omega⟩
end
end Go.Proofs.Ytbpgbihcihnieaa
