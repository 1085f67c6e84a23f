/- The texts Lst ArgHead Args ArgInt Z1 Z2 of this work, merged by wip/merge.py. No conditions. -/
import Derived.Test.YtbcpmnnlhdgbhaaGreatDoorQG00
import Derived.OpenShut
import Derived.ProofKit
import Derived.SizedLaws
import Derived.Deep.Slices
namespace Go.Proofs.YtbcpmnnlhdgbhaaGreatDoor
open Go.RowKit
theorem slinfo : (Tryz.prog.info? 96).map (fun i => (i.zero, i.size, i.bytes)) = some (some (.slice none 0 0), 1, 24) := by kernel_rfl

theorem own8_form {w : World} {base : Nat} {v : Value} {l : List UInt8} (h : Own8 w base v l) : ∃ A c, v = .slice A l.length c ∧ l.length ≤ c ∧ Reads w w.heap.size 1 A l.length (bvs l) := by
  have h0 := h
  obtain ⟨hl, h | ⟨g, cap, cur, rfl, hb, hh, hle, _⟩⟩ := h
  · obtain ⟨rfl, hn⟩ := h
    have : l = [] := List.eq_nil_of_length_eq_zero hn
    subst this
    exact ⟨none, 0, rfl, by simp, Reads.none_⟩
  · exact ⟨_, cap, rfl, hle, Reads.of_own h0⟩
theorem own8_form' {w : World} {base n : Nat} {v : Value} {l : List UInt8} (h : Own8 w base v l) (hl : l.length = n) : ∃ A c, v = .slice A n c ∧ n ≤ c ∧ Reads w w.heap.size 1 A n (bvs l) := by
  subst hl; exact own8_form h
theorem own8_keep {w w' : World} {base : Nat} {v : Value} {l : List UInt8} {row : Option Nat} (h : Own8 w base v l) (hg : w.grownBy w' row) (hne : v.ownBlock = none ∨ v.ownBlock ≠ row) : Own8 w' base v l := World.ownsRow.kept h hg hne
theorem own8_lt {w : World} {base : Nat} {v : Value} {l : List UInt8} (h : Own8 w base v l) : ∀ k, v.ownBlock = some k → base ≤ k ∧ k < w.heap.size := World.ownsRow.lt h
theorem own8_base {w : World} {base base' : Nat} {v : Value} {l : List UInt8} (h : Own8 w base v l) (hb : base' ≤ base) : Own8 w base' v l := by
  obtain ⟨hl, h | ⟨g, cap, cur, h1, h2, h3⟩⟩ := h
  · exact ⟨hl, .inl h⟩
  · exact ⟨hl, .inr ⟨g, cap, cur, h1, by omega, h3⟩⟩

/-- What 'Below' says of all that was there, as 'grownBy'. -/
theorem grown_of_below {w w' : World} (h : Below w.heap.size w w') (row : Option Nat) : w.grownBy w' row := ⟨h.os, h.tape, h.output, h.size, fun k hk _ => h.block k hk⟩
theorem own8_below {w w' : World} {base : Nat} {v : Value} {l : List UInt8} (h : Own8 w base v l) (hb : Below w.heap.size w w') : Own8 w' base v l := own8_keep h (grown_of_below hb none) (by cases v.ownBlock <;> simp)

/-- v is a [][]byte of the call's own; member i is a []byte of the call's own, that reads ls[i]; all rows are apart. -/
structure OwnLL (w : World) (base : Nat) (v : Value) (ls : List (List UInt8)) (vs : List Value) : Prop where
  row : w.ownsRow base 96 1 v ls.length vs
  each : ∀ (i : Nat) (h : i < ls.length), ∃ u, vs[i]? = some u ∧ Own8 w base u ls[i] ∧ (u.ownBlock = none ∨ u.ownBlock ≠ v.ownBlock)
  apart : ∀ (i j : Nat) (u u' : Value), i < j → vs[i]? = some u → vs[j]? = some u' → u.ownBlock = none ∨ u.ownBlock ≠ u'.ownBlock
def OwnL (w : World) (base : Nat) (v : Value) (ls : List (List UInt8)) : Prop := ∃ vs, OwnLL w base v ls vs

theorem OwnL.nil (w : World) (base : Nat) : OwnL w base (.slice none 0 0) [] :=
  ⟨[], World.ownsRow_nil w base _ 1, fun i h => by simp at h, fun i j u u' _ h => by simp at h⟩
theorem OwnL.lists {w : World} {base : Nat} {v : Value} {ls : List (List UInt8)} (h : OwnL w base v ls) : ∃ A c, v = .slice A ls.length c ∧ ls.length ≤ c ∧ Lists w w.heap.size A ls := by
  obtain ⟨vs, h⟩ := h
  have hr := h.row
  obtain ⟨hl, h0 | ⟨g, cap, cur, rfl, hb, hh, hle, _⟩⟩ := h.row
  · obtain ⟨rfl, hn⟩ := h0
    have : ls = [] := List.eq_nil_of_length_eq_zero hn
    subst this
    exact ⟨none, 0, rfl, by simp, [], Reads.none_, fun i hi => by simp at hi⟩
  · refine ⟨_, cap, rfl, hle, vs, Reads.of_own hr, fun i hi => ?_⟩
    obtain ⟨u, hu, ho, _⟩ := h.each i hi
    obtain ⟨A, c, rfl, hc, hr⟩ := own8_form ho
    exact ⟨A, c, hu, hc, hr⟩
theorem OwnL.below {w w' : World} {base : Nat} {v : Value} {ls : List (List UInt8)} (h : OwnL w base v ls) (hb : Below w.heap.size w w') : OwnL w' base v ls := by
  obtain ⟨vs, h⟩ := h
  refine ⟨vs, World.ownsRow.kept h.row (grown_of_below hb none) (by cases v.ownBlock <;> simp), fun i hi => ?_, h.apart⟩
  obtain ⟨u, hu, ho, hne⟩ := h.each i hi
  exact ⟨u, hu, own8_below ho hb, hne⟩
theorem oneCell_own8 {w : World} {base : Nat} {v : Value} {l : List UInt8} (h : Own8 w base v l) : v.oneCell' = true := by
  obtain ⟨A, c, rfl, _⟩ := own8_form h
  rfl
theorem own8_zero (w : World) (base : Nat) (hb : base ≤ w.heap.size) : Own8 (w.alloc (.cells #[] 5)) base (.slice (some ⟨w.heap.size, 0, none⟩) 0 0) [] :=
  ⟨rfl, .inr ⟨w.heap.size, 0, #[], rfl, hb, heap_alloc_new w _, Nat.le_refl _, by simp [maxLen], rfl, rfl⟩⟩
theorem OwnL.len {w : World} {base n c : Nat} {A : Option Addr} {ls : List (List UInt8)} (h : OwnL w base (.slice A n c) ls) : n = ls.length := by
  obtain ⟨A', c', h1, _⟩ := h.lists
  cases h1; rfl
theorem OwnL.reads {w : World} {base n c : Nat} {A : Option Addr} {ls : List (List UInt8)} (h : OwnL w base (.slice A n c) ls) : Lists w w.heap.size A ls := by
  obtain ⟨A', c', h1, _, h2⟩ := h.lists
  cases h1
  exact h2
/-- A slice of bytes made a string. -/
theorem run_str8 {w : World} {B n : Nat} {A : Option Addr} {l : List UInt8} (hr : Reads w B 1 A n (bvs l)) (c : Nat) : (convert 96 9 (.slice A n c)).run Tryz.prog w = .ok (.string ⟨l.toArray⟩) w := by
  have hm : n = l.length := by have := hr.1; rw [bvs_length] at this; omega
  subst hm
  cases A with
  | none =>
    have hn : l = [] := by
      cases l with
      | nil => rfl
      | cons a l => obtain ⟨_, h, _⟩ := hr.2 (by simp); cases h
    subst hn
    rw [run_convert_bytes_nil w 96 5 Tryz.underlying96 Tryz.underlying5 _ _ _ Tryz.underlying9]
    rfl
  | some ad =>
    refine run_convert_bytes_back (P := Tryz.prog) w 96 9 5 ad c l Tryz.underlying96 Tryz.underlying5 Tryz.underlying9 fun j hj => ?_
    obtain ⟨ad', h, _, hc⟩ := hr.2 (by omega)
    cases h
    exact hc j _ (by simp [bvs, bv, List.getElem?_eq_getElem hj])
end Go.Proofs.YtbcpmnnlhdgbhaaGreatDoor

namespace Go.Proofs.YtbcpmnnlhdgbhaaGreatDoor
open Go.RowKit Go.ChangeShapes Go.WideShapes Go.Deep
section
variable {H : Type}
theorem weights_head {t : TypeId} {ts : List TypeId} {d : DataW H} {r : List (DataW H)} {p : Nat → Bool} (h : (DataW.weightsEach Tryz.prog (t :: ts) (d :: r)).all p = true) : (d.weights Tryz.prog t).all p = true ∧ (DataW.weightsEach Tryz.prog ts r).all p = true := by
  simp only [DataW.weightsEach, List.all_append, Bool.and_eq_true] at h
  exact h
end
end Go.Proofs.YtbcpmnnlhdgbhaaGreatDoor

namespace Go.Proofs.YtbcpmnnlhdgbhaaGreatDoor
open Go.RowKit Go.ChangeShapes Go.WideShapes Go.Deep
section
variable {H : Type} {enc : TypeId × Value → H} {w : World} {base : Nat} {held : Bool}
def ArgS (v : Value) (s : ByteArray) : Prop := v = .string s ∧ s.size ≤ reachBytes
variable {r : Reach} {b0 : Nat} {v : Value} {d : DataW H} {p : List MemPlace}
set_option maxRecDepth 100000 in
theorem arg_string (hv : Value.okWide Tryz.prog w r b0 9 v) (h : DataW.Trod enc Tryz.prog w base (fun _ => true) held 9 v d p) (_hs : (d.weights Tryz.prog 9).all (· ≤ reachBytes) = true) : ∃ s, ArgS v s := by
  obtain ⟨s, rfl, rfl, rfl, hw⟩ := Go.ChangeMaps.open_string Tryz.underlying9 hv h
  refine ⟨s, rfl, ?_⟩
  have h1 : decide (s.data.toList.length ≤ reachBytes) = true := List.all_eq_true.1 _hs s.data.toList.length (by unfold DataW.weights; exact List.mem_cons_self)
  have h2 : s.data.toList.length = s.size := Array.length_toList
  rw [← h2]
  exact of_decide_eq_true h1
end
end Go.Proofs.YtbcpmnnlhdgbhaaGreatDoor

namespace Go.Proofs.YtbcpmnnlhdgbhaaGreatDoor
open Go.RowKit Go.ChangeShapes Go.WideShapes Go.Deep
section
variable {H : Type} {enc : TypeId × Value → H} {w : World} {base : Nat} {held : Bool}
def ArgI (v : Value) (n : Int) : Prop := v = .int .i64 n ∧ -9223372036854775808 ≤ n ∧ n ≤ 9223372036854775807
variable {r : Reach} {b0 : Nat} {v : Value} {d : DataW H} {p : List MemPlace}
set_option maxRecDepth 100000 in
theorem arg_int (hv : Value.okWide Tryz.prog w r b0 3 v) (h : DataW.Trod enc Tryz.prog w base (fun _ => true) held 3 v d p) (_hs : (d.weights Tryz.prog 3).all (· ≤ reachBytes) = true) : ∃ n, ArgI v n := by
  obtain ⟨x, rfl, rfl, rfl, wx⟩ := open_int Tryz.underlying3 hv h
  have := bounds_i64 wx
  exact ⟨x, rfl, by omega, by omega⟩
end
end Go.Proofs.YtbcpmnnlhdgbhaaGreatDoor

namespace Go.Proofs.YtbcpmnnlhdgbhaaGreatDoor
open Go.RowKit
def rotI (x : Int) (s : Nat) : Int := bits .or .u32 (IntKind.u32.wrap (x * (2 ^ s : Nat))) (x / (2 ^ (32 - s) : Nat))
set_option maxRecDepth 100000 in
theorem rot6 (x : Int) (w : World) : Calls Tryz.prog 157 #[.int .u32 x, .int .i64 (-6)] w fun e w' => e = .returned (.int .u32 (rotI x 26)) ∧ w' = w := by
  have e : bits BinOp.and IntKind.u64 (IntKind.u64.wrap (-6)) 31 = 26 := by kernel_rfl
  go_enter Tryz.func157, Tryz.ntmps157
  go_wp2
  go_ret
  exact ⟨rfl, rfl⟩
set_option maxRecDepth 100000 in
theorem rot11 (x : Int) (w : World) : Calls Tryz.prog 157 #[.int .u32 x, .int .i64 (-11)] w fun e w' => e = .returned (.int .u32 (rotI x 21)) ∧ w' = w := by
  have e : bits BinOp.and IntKind.u64 (IntKind.u64.wrap (-11)) 31 = 21 := by kernel_rfl
  go_enter Tryz.func157, Tryz.ntmps157
  go_wp2
  go_ret
  exact ⟨rfl, rfl⟩
set_option maxRecDepth 100000 in
theorem rot25 (x : Int) (w : World) : Calls Tryz.prog 157 #[.int .u32 x, .int .i64 (-25)] w fun e w' => e = .returned (.int .u32 (rotI x 7)) ∧ w' = w := by
  have e : bits BinOp.and IntKind.u64 (IntKind.u64.wrap (-25)) 31 = 7 := by kernel_rfl
  go_enter Tryz.func157, Tryz.ntmps157
  go_wp2
  go_ret
  exact ⟨rfl, rfl⟩
set_option maxRecDepth 100000 in
theorem rot17 (x : Int) (w : World) : Calls Tryz.prog 157 #[.int .u32 x, .int .i64 (-17)] w fun e w' => e = .returned (.int .u32 (rotI x 15)) ∧ w' = w := by
  have e : bits BinOp.and IntKind.u64 (IntKind.u64.wrap (-17)) 31 = 15 := by kernel_rfl
  go_enter Tryz.func157, Tryz.ntmps157
  go_wp2
  go_ret
  exact ⟨rfl, rfl⟩
set_option maxRecDepth 100000 in
theorem rot19 (x : Int) (w : World) : Calls Tryz.prog 157 #[.int .u32 x, .int .i64 (-19)] w fun e w' => e = .returned (.int .u32 (rotI x 13)) ∧ w' = w := by
  have e : bits BinOp.and IntKind.u64 (IntKind.u64.wrap (-19)) 31 = 13 := by kernel_rfl
  go_enter Tryz.func157, Tryz.ntmps157
  go_wp2
  go_ret
  exact ⟨rfl, rfl⟩
set_option maxRecDepth 100000 in
theorem rot7 (x : Int) (w : World) : Calls Tryz.prog 157 #[.int .u32 x, .int .i64 (-7)] w fun e w' => e = .returned (.int .u32 (rotI x 25)) ∧ w' = w := by
  have e : bits BinOp.and IntKind.u64 (IntKind.u64.wrap (-7)) 31 = 25 := by kernel_rfl
  go_enter Tryz.func157, Tryz.ntmps157
  go_wp2
  go_ret
  exact ⟨rfl, rfl⟩
set_option maxRecDepth 100000 in
theorem rot18 (x : Int) (w : World) : Calls Tryz.prog 157 #[.int .u32 x, .int .i64 (-18)] w fun e w' => e = .returned (.int .u32 (rotI x 14)) ∧ w' = w := by
  have e : bits BinOp.and IntKind.u64 (IntKind.u64.wrap (-18)) 31 = 14 := by kernel_rfl
  go_enter Tryz.func157, Tryz.ntmps157
  go_wp2
  go_ret
  exact ⟨rfl, rfl⟩
set_option maxRecDepth 100000 in
theorem rot2 (x : Int) (w : World) : Calls Tryz.prog 157 #[.int .u32 x, .int .i64 (-2)] w fun e w' => e = .returned (.int .u32 (rotI x 30)) ∧ w' = w := by
  have e : bits BinOp.and IntKind.u64 (IntKind.u64.wrap (-2)) 31 = 30 := by kernel_rfl
  go_enter Tryz.func157, Tryz.ntmps157
  go_wp2
  go_ret
  exact ⟨rfl, rfl⟩
set_option maxRecDepth 100000 in
theorem rot13 (x : Int) (w : World) : Calls Tryz.prog 157 #[.int .u32 x, .int .i64 (-13)] w fun e w' => e = .returned (.int .u32 (rotI x 19)) ∧ w' = w := by
  have e : bits BinOp.and IntKind.u64 (IntKind.u64.wrap (-13)) 31 = 19 := by kernel_rfl
  go_enter Tryz.func157, Tryz.ntmps157
  go_wp2
  go_ret
  exact ⟨rfl, rfl⟩
set_option maxRecDepth 100000 in
theorem rot22 (x : Int) (w : World) : Calls Tryz.prog 157 #[.int .u32 x, .int .i64 (-22)] w fun e w' => e = .returned (.int .u32 (rotI x 10)) ∧ w' = w := by
  have e : bits BinOp.and IntKind.u64 (IntKind.u64.wrap (-22)) 31 = 10 := by kernel_rfl
  go_enter Tryz.func157, Tryz.ntmps157
  go_wp2
  go_ret
  exact ⟨rfl, rfl⟩
end Go.Proofs.YtbcpmnnlhdgbhaaGreatDoor

namespace Go.Proofs.YtbcpmnnlhdgbhaaGreatDoor
open Go.RowKit
def wordI (l : List UInt8) : Int := l.foldl (fun n x => bits .or .u64 (IntKind.u64.wrap (n * 256)) (x.toNat : Int)) 0
theorem wordI_snoc (l : List UInt8) (x : UInt8) : wordI (l ++ [x]) = bits .or .u64 (IntKind.u64.wrap (wordI l * 256)) (x.toNat : Int) := by
  unfold wordI; rw [List.foldl_append]; rfl
theorem take_snoc {l : List UInt8} {k : Nat} (h : k < l.length) : l.take (k + 1) = l.take k ++ [l.getD k 0] := by
  rw [List.take_succ_eq_append_getElem h]
  simp [h]
set_option maxRecDepth 100000 in
set_option maxHeartbeats 1000000 in
theorem word_any (A : Option Addr) (n c : Nat) (l : List UInt8) (w : World) (B : Nat) (hr : Reads w B 1 A n (bvs l)) (hn : n ≤ 1000000) :
    Calls Tryz.prog 156 #[.slice A n c] w fun e w' => e = .returned (.int .u64 (wordI l)) ∧ w' = w := by
  have hl : l.length = n := by have := hr.1; rw [bvs_length] at this; omega
  have HL := Lib.hid hl
  have hnI : (n : Int) ≤ 1000000 := by omega
  have HR := Lib.hid hr
  clear hr hl
  go_enter Tryz.func156, Tryz.ntmps156
  go_wp2
  go_loop [3, 8] (fun x i => ∃ (k : Nat) (xi : Int), k ≤ n ∧ i = .int .i64 (k : Int) ∧ x = .int .u64 xi ∧ Hid (xi = wordI (l.take k))) (fun _ i => n - (intOf i).toNat)
  case atStart => exact ⟨0, 0, Nat.zero_le _, rfl, rfl, by rw [List.take_zero]; rfl⟩
  case round =>
    obtain ⟨k, xi, hk, rfl, rfl, hx⟩ := hrel
    by_cases hlt : k < n
    · have hlt' : (k : Int) < (n : Int) := by omega
      have hk0 : (0 : Int) ≤ (k : Int) := by omega
      obtain ⟨bb, off, hA, hbb, hcell⟩ := HR.out.bytes (by omega)
      subst hA
      obtain ⟨x, hxk⟩ : ∃ x, x = l.getD k 0 := ⟨_, rfl⟩
      have cc := hcell k hlt
      rw [← hxk] at cc
      have SN : Hid (wordI (l.take (k + 1)) = bits .or .u64 (IntKind.u64.wrap (xi * 256)) (x.toNat : Int)) := by
        show _ = _
        rw [take_snoc (by rw [HL.out]; exact hlt), wordI_snoc, ← hx.out, ← hxk]
      have hw : IntKind.u64.wrap (x.toNat : Int) = (x.toNat : Int) := by
        have := x.toNat_lt
        unfold IntKind.wrap
        rw [if_neg (by simp [IntKind.signed])]
        exact Int.emod_eq_of_lt (by omega) (by show _ < (2 : Int) ^ 64; omega)
      clear hxk hcell
      go_wp2
      go_round
      case rel => exact ⟨k + 1, _, hlt, by go_num, rfl, SN.out.symm⟩
      case measure => simp [intOf]; omega
    · obtain rfl : n = k := by omega
      go_wp2
      go_ret
      rw [hx.out, show l.take n = l from List.take_of_length_le (by rw [HL.out]; exact Nat.le_refl _)]
      exact ⟨rfl, rfl⟩
end Go.Proofs.YtbcpmnnlhdgbhaaGreatDoor
