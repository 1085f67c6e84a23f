/- The texts JN1 B0 NB0 NB1 NB2 of this work, merged by wip/merge.py. No conditions. -/
import Derived.Test.YtnhdepmalejclaaGreatDoorQG31
import Derived.Test.YtnhdepmalejclaaGreatDoorQG32
import Derived.Test.YtnhdepmalejclaaGreatDoorQG27
import Derived.Test.YtnhdepmalejclaaGreatDoorQG09
import Derived.Test.YtnhdepmalejclaaGreatDoorQG11
import Derived.Test.YtnhdepmalejclaaGreatDoorQG04
import Derived.Test.YtnhdepmalejclaaGreatDoorQG10
namespace Go.Proofs.YtnhdepmalejclaaGreatDoor
open Go.RowKit Go.Lib
section
variable {ops : Array Oper} {rest : List Oper} {o : Oper} {a : Act} {w0 w : World} {Q : Exit → Act → World → Prop} {bs : List (Nat × Array Value × TypeId)}
/-- A string's bytes: the new row is marked. -/
theorem s_mark {b n c : Nat} {l : List UInt8} (F : BK w0 w ((b, (bvs l).toArray, 5) :: bs)) (hg : o.guard = none) {x : Operand} (ho : o.op = .convert 108 108 x) (hx : a.eval x = .slice (some ⟨b, 0, none⟩) n c) (hl : l.length = n)
    (h : ∀ w', BK w0 w' bs → Reads w' w'.heap.size 1 (some ⟨b, 0, none⟩) n (bvs l) → wpList Tryz.prog ops Q rest (a.put o.dst (.slice (some ⟨b, 0, none⟩) n c)) w') : wpList Tryz.prog ops Q (o :: rest) a w := by
  refine wpList_plain hg fun K hK => ?_
  have hrow := F.mem (i := 0) rfl
  have hrun := run_conv_mark (n := n) (c := c) hrow rfl
  obtain ⟨m1, m2, m3, m4⟩ := mark_world (n := (bvs l).toArray.size) hrow
  have hr := F.reads 0 rfl 0 n l hl (fun j _ => by rw [Nat.zero_add, List.getElem?_toArray])
  unfold Oper.wp execOp
  simp only [ho, hx, hrun, Sem.run_bind, Sem.run_pure, Result.andThen_ok]
  refine hK _ _ (h _ ⟨F.below.trans (m4 _ (F.own _ (List.mem_of_getElem? (i := 0) rfl))), (List.nodup_cons.1 F.nodup).2, fun e he => F.own e (List.mem_cons_of_mem _ he), fun e he => ?_⟩ ((hr.keep fun p _ => m1 p).more (by rw [m2]; exact Nat.le_refl _)))
  refine (m3 e.1 (fun e2 => ?_)).trans (F.row e (List.mem_cons_of_mem _ he))
  exact (List.nodup_cons.1 F.nodup).1 (List.mem_map.2 ⟨e, he, e2⟩)
end
set_option maxRecDepth 100000 in
set_option maxHeartbeats 2000000 in
theorem join_any (A : Option Addr) (n c : Nat) (ls : List (List UInt8)) (hn : ls.length = n) (hn9 : n ≤ 1000) (w : World) (hL : Lists w w.heap.size A ls) (h2 : ls.flatten.length ≤ 1000000) : Calls Tryz.prog 68 #[.slice A n c] w (PadPost ls.flatten w) := by
  have F0 := Lib.hid (BK.start w)
  have T0 : Hid True := trivial
  have hn9' : (n : Int) ≤ 1000 := by omega
  have HLS := Lib.hid hL
  have HN := Lib.hid hn
  have HZ := Lib.hid h2
  clear hL h2 hn
  go_enter Tryz.func68, Tryz.ntmps68
  go_wp2
  go_loopw [3, 7] (fun v iv wr => ∃ k : Nat, k ≤ n ∧ iv = .int .i64 (k : Int) ∧ Hid (AT w wr [] v (ls.take k).flatten)) (fun _ i _ => n - (RowKit.intOf i).toNat)
  case atStart => exact ⟨0, Nat.zero_le _, rfl, AT.start F0.out⟩
  case round =>
    obtain ⟨k, hk, rfl, hF⟩ := hrel
    clear F0 T0
    by_cases hlt : k < n
    · have hlt' : (k : Int) < (n : Int) := by omega
      have hk0 : (0 : Int) ≤ (k : Int) := by omega
      obtain ⟨x, b, off, A', c', hx, rfl, hb, hcell, hle, hr⟩ := HLS.out.at_ k (by rw [HN.out]; exact hlt)
      have cc := (hF.out.bk.below.cell (p := ⟨b, off + k, none⟩) hb).trans hcell
      have HX : Hid ((ls.take (k + 1)).flatten = (ls.take k).flatten ++ x) := by show _ = _; rw [flat_take (by rw [HN.out]; exact hlt), hx.out]
      have HRX := Lib.hid (hr.below hF.out.bk.below)
      have HK := Lib.hid hlt
      have HB : Hid ((ls.take k).flatten.length + x.length ≤ 140737488355328) := by
        show _ ≤ _
        have h3 := flat_le ls (k + 1)
        rw [HX.out, List.length_append] at h3
        have := HZ.out
        omega
      have G := hF
      clear hx hb hcell hle hr hlt hk hF
      have T0 : Hid True := trivial
      go_wp2_with (have hx_ := T0; refine s_appB G.out rfl rfl rfl rfl HRX.out HB.out ?_; clear hx_ T0; intro v' w2 h1; rw [← HX.out] at h1; have F2 := Lib.hid h1; clear h1 G cc)
      go_roundw
      case rel => exact ⟨k + 1, HK.out, by go_num, F2⟩
      case measure => simp [RowKit.intOf]; have := HK.out; omega
    · obtain rfl : k = n := by omega
      have hd : decide ((k : Int) < (k : Int)) = false := by simp
      rw [List.take_of_length_le (by rw [HN.out]; exact Nat.le_refl _)] at hF
      obtain ⟨y, hy⟩ : ∃ y, y = ls.flatten := ⟨_, rfl⟩
      rw [← hy] at hF
      have G := hF
      obtain ⟨A9, c9, hv9, hc9, hr9⟩ := hF.out.own.reads
      subst hv9
      have HY := Lib.hid hy
      have C9 := Lib.hid hc9
      have R9 := Lib.hid hr9
      clear hF hc9 hr9 hy hlt hk
      go_wp2
      go_ret
      show PadPost ls.flatten w (.returned (.slice A9 y.length c9)) wr
      rw [← HY.out]
      exact ⟨A9, c9, rfl, C9.out, R9.out, G.out.bk.below, fun ad e => (G.out.own.lt ad.block (by rw [e]; rfl)).1⟩
set_option maxRecDepth 100000 in
set_option maxHeartbeats 2000000 in
theorem rSignSeed_any (secret : List UInt8) (hs : secret.length = 32) (w : World) : Calls Tryz.prog 42 #[.agg (bvs secret).toArray] w (BRet (rsum256 ([[115, 105, 103, 110], secret].flatten)) w) := by
  have F0 := Lib.hid (BK.start w)
  have T0 : Hid True := trivial
  have HS := Lib.hid hs
  obtain ⟨l, hl0⟩ : ∃ z, z = rsum256 ([[115, 105, 103, 110], secret].flatten) := ⟨_, rfl⟩
  have Ll : Hid (l.length = 32) := by show _ = _; rw [hl0]; exact rsum256_len _
  obtain ⟨m, hm⟩ : ∃ z, z = ([[115, 105, 103, 110], secret] : List (List UInt8)).flatten := ⟨_, rfl⟩
  have Lm : m.length = 36 := by rw [hm]; simp [hs]
  have CJ : Hid (∀ w' A', Below w.heap.size w w' → Lists w' w'.heap.size A' [[115, 105, 103, 110], secret] → Calls Tryz.prog 68 #[.slice A' 2 2] w' (PadPost m w')) := fun w' A' hb hl => by
    have h := join_any A' 2 2 [[115, 105, 103, 110], secret] rfl (by decide) w' hl (by rw [← hm, Lm]; decide)
    rw [← hm] at h
    exact h
  have CS : Hid (∀ A c w', Reads w' w'.heap.size 1 A m.length (bvs m) → Calls Tryz.prog 67 #[.slice A m.length c] w' (fun e w2 => e = .returned (.agg (bvs l).toArray) ∧ Below w'.heap.size w' w2)) := fun A c w' hr => by
    rw [hl0, ← hm]
    exact rsum256_any A m.length c m (by rw [Lm]; decide) w' hr
  rw [← hl0]
  clear hs hl0 hm Lm
  go_enter Tryz.func42, Tryz.ntmps42
  go_wp2_with (first
    | (have hx_ := T0; refine s_box F0.out rfl rfl rfl rfl ?_; clear hx_ T0; intro w1 b1 h1 _; have F1 := Lib.hid h1; clear h1 F0; have T1 : Hid True := trivial)
    | (have hx_ := T1; refine s_alloc F1.out rfl rfl zeroB32 rfl ?_; clear hx_ T1; intro w2 b2 h1 _; have F2 := Lib.hid h1; clear h1 F1; have T2 : Hid True := trivial)
    | (have hx_ := T2; refine s_row F2.out rfl rfl (e := 5) (cs := (bvs [115, 105, 103, 110]).toArray) (fun w => by kernel_rfl) ?_; clear hx_ T2; intro w3 b3 h1 _; have F3 := Lib.hid h1; clear h1 F2; have T3 : Hid True := trivial)
    | (have hx_ := T3; refine s_mark F3.out rfl rfl rfl rfl ?_; clear hx_ T3; intro w4 h1 hr1; have HW1 := Lib.hid hr1; have XW1 := Lib.hid (show True from trivial); have F4 := Lib.hid h1; clear h1 hr1 F3; have T4 : Hid True := trivial)
    | (have hx_ := T4; refine s_rows2 F4.out rfl rfl rfl rfl ?_; clear hx_ T4; intro w5 b4 h1 hb1; have HW2 := Lib.hid ((HW1.out.below hb1).more hb1.size); have F5 := Lib.hid h1; clear h1 hb1 HW1 XW1 F4; have T5 : Hid True := trivial)
    | (go_at_call 68; have hx_ := T5; refine (CJ.out _ _ F5.out.below (lists2 (F5.out.mem (i := 0) rfl) (by rfl) HS.out (by decide) (by decide) HW2.out (F5.out.reads 2 rfl 0 32 secret HS.out (fun j _ => by rw [Nat.zero_add, List.getElem?_toArray])))).mono ?_; clear hx_ T5; rintro e w6 ⟨A7, c7, rfl, hc7, hr7, hb, _⟩; have HR7 := Lib.hid hr7; have F6 := Lib.hid (F5.out.later hb); clear hb hr7 hc7 HW2 F5; have T6 : Hid True := trivial)
    | (go_at_call 67; have hx_ := T6; refine (CS.out _ _ _ HR7.out).mono ?_; clear hx_ T6; rintro e w7 ⟨rfl, hb⟩; have F7 := Lib.hid (F6.out.later hb); clear hb HR7 F6; have T7 : Hid True := trivial)
    | (have hx_ := T7; refine s_store_b F7.out rfl rfl 1 rfl rfl l Ll.out rfl rfl ?_; clear hx_ T7; intro w8 h1; have F8 := Lib.hid h1; clear h1 F7; have T8 : Hid True := trivial))
  exact bodyPost_ret (v := .agg (bvs l).toArray) (by simp [results, Tryz.results42, asAddr]; exact ret32 Ll.out (F8.out.mem (i := 1) rfl)) rfl ⟨rfl, F8.out.below⟩
set_option maxRecDepth 100000 in
set_option maxHeartbeats 2000000 in
theorem rVrfSeed_any (secret : List UInt8) (hs : secret.length = 32) (w : World) : Calls Tryz.prog 43 #[.agg (bvs secret).toArray] w (BRet (rsum256 ([[118, 114, 102], secret].flatten)) w) := by
  have F0 := Lib.hid (BK.start w)
  have T0 : Hid True := trivial
  have HS := Lib.hid hs
  obtain ⟨l, hl0⟩ : ∃ z, z = rsum256 ([[118, 114, 102], secret].flatten) := ⟨_, rfl⟩
  have Ll : Hid (l.length = 32) := by show _ = _; rw [hl0]; exact rsum256_len _
  obtain ⟨m, hm⟩ : ∃ z, z = ([[118, 114, 102], secret] : List (List UInt8)).flatten := ⟨_, rfl⟩
  have Lm : m.length = 35 := by rw [hm]; simp [hs]
  have CJ : Hid (∀ w' A', Below w.heap.size w w' → Lists w' w'.heap.size A' [[118, 114, 102], secret] → Calls Tryz.prog 68 #[.slice A' 2 2] w' (PadPost m w')) := fun w' A' hb hl => by
    have h := join_any A' 2 2 [[118, 114, 102], secret] rfl (by decide) w' hl (by rw [← hm, Lm]; decide)
    rw [← hm] at h
    exact h
  have CS : Hid (∀ A c w', Reads w' w'.heap.size 1 A m.length (bvs m) → Calls Tryz.prog 67 #[.slice A m.length c] w' (fun e w2 => e = .returned (.agg (bvs l).toArray) ∧ Below w'.heap.size w' w2)) := fun A c w' hr => by
    rw [hl0, ← hm]
    exact rsum256_any A m.length c m (by rw [Lm]; decide) w' hr
  rw [← hl0]
  clear hs hl0 hm Lm
  go_enter Tryz.func43, Tryz.ntmps43
  go_wp2_with (first
    | (have hx_ := T0; refine s_box F0.out rfl rfl rfl rfl ?_; clear hx_ T0; intro w1 b1 h1 _; have F1 := Lib.hid h1; clear h1 F0; have T1 : Hid True := trivial)
    | (have hx_ := T1; refine s_alloc F1.out rfl rfl zeroB32 rfl ?_; clear hx_ T1; intro w2 b2 h1 _; have F2 := Lib.hid h1; clear h1 F1; have T2 : Hid True := trivial)
    | (have hx_ := T2; refine s_row F2.out rfl rfl (e := 5) (cs := (bvs [118, 114, 102]).toArray) (fun w => by kernel_rfl) ?_; clear hx_ T2; intro w3 b3 h1 _; have F3 := Lib.hid h1; clear h1 F2; have T3 : Hid True := trivial)
    | (have hx_ := T3; refine s_mark F3.out rfl rfl rfl rfl ?_; clear hx_ T3; intro w4 h1 hr1; have HW1 := Lib.hid hr1; have XW1 := Lib.hid (show True from trivial); have F4 := Lib.hid h1; clear h1 hr1 F3; have T4 : Hid True := trivial)
    | (have hx_ := T4; refine s_rows2 F4.out rfl rfl rfl rfl ?_; clear hx_ T4; intro w5 b4 h1 hb1; have HW2 := Lib.hid ((HW1.out.below hb1).more hb1.size); have F5 := Lib.hid h1; clear h1 hb1 HW1 XW1 F4; have T5 : Hid True := trivial)
    | (go_at_call 68; have hx_ := T5; refine (CJ.out _ _ F5.out.below (lists2 (F5.out.mem (i := 0) rfl) (by rfl) HS.out (by decide) (by decide) HW2.out (F5.out.reads 2 rfl 0 32 secret HS.out (fun j _ => by rw [Nat.zero_add, List.getElem?_toArray])))).mono ?_; clear hx_ T5; rintro e w6 ⟨A7, c7, rfl, hc7, hr7, hb, _⟩; have HR7 := Lib.hid hr7; have F6 := Lib.hid (F5.out.later hb); clear hb hr7 hc7 HW2 F5; have T6 : Hid True := trivial)
    | (go_at_call 67; have hx_ := T6; refine (CS.out _ _ _ HR7.out).mono ?_; clear hx_ T6; rintro e w7 ⟨rfl, hb⟩; have F7 := Lib.hid (F6.out.later hb); clear hb HR7 F6; have T7 : Hid True := trivial)
    | (have hx_ := T7; refine s_store_b F7.out rfl rfl 1 rfl rfl l Ll.out rfl rfl ?_; clear hx_ T7; intro w8 h1; have F8 := Lib.hid h1; clear h1 F7; have T8 : Hid True := trivial))
  exact bodyPost_ret (v := .agg (bvs l).toArray) (by simp [results, Tryz.results43, asAddr]; exact ret32 Ll.out (F8.out.mem (i := 1) rfl)) rfl ⟨rfl, F8.out.below⟩
end Go.Proofs.YtnhdepmalejclaaGreatDoor

namespace Go.Proofs.YtnhdepmalejclaaGreatDoor
def pR : Nat := 57896044618658097711785492504343953926634992332820282019728792003956564819949
def foldR (n h : Nat) : Nat :=
  if h = 0 then n else if n + 38 * h < 115792089237316195423570985008687907853269984665640564039457584007913129639936 then n + 38 * h else n + 38 * h - 115792089237316195423570985008687907853269984665640564039457584007913129639936 + 38
def overR (t : Nat) : Nat := foldR (t % 115792089237316195423570985008687907853269984665640564039457584007913129639936) (t / 115792089237316195423570985008687907853269984665640564039457584007913129639936)
def plusR (a b : Nat) : Nat := overR (a + b)
def minusR (a b : Nat) : Nat := plusR a (pR - b % pR)
def timesR (a b : Nat) : Nat := overR (a * b % 115792089237316195423570985008687907853269984665640564039457584007913129639936 + 38 * (a * b / 115792089237316195423570985008687907853269984665640564039457584007913129639936))
/-- So many bits of a power, the greatest first. -/
def powR (a e : Nat) : Nat → Nat → Nat
  | 0, out => out
  | i + 1, out => powR a e i (if e / 2 ^ i % 2 = 1 then timesR (timesR out out) a else timesR out out)
def powerR (a e : Nat) : Nat := powR a e 256 1
def invR (a : Nat) : Nat := powerR a (pR - 2)
def iR : Nat := 19681161376707505956807079304988542015446066515923890162744021073123829784752
def dR : Nat := 37095705934669439343138083508754565189542113879843219016388785533085940283555
def rootX (a : Nat) : Nat :=
  let x := powerR a 7237005577332262213973186563042994240829374041602535252466099000494570602494
  if timesR x x % pR = a % pR then x else timesR x iR
def rtR (a : Nat) : Nat × Bool := (rootX a % pR, decide (timesR (rootX a) (rootX a) % pR = a % pR))
structure Rt where
  x : Nat
  y : Nat
  z : Nat
  t : Nat
deriving DecidableEq
def neutralR : Rt := ⟨0, 1, 1, 0⟩
def outR (e g h i : Nat) : Rt := ⟨timesR e g, timesR h i, timesR g h, timesR e i⟩
def sumR (p q : Rt) : Rt :=
  let a := timesR (minusR p.y p.x) (minusR q.y q.x)
  let b := timesR (plusR p.y p.x) (plusR q.y q.x)
  let c := timesR (timesR p.t q.t) (plusR dR dR)
  let d := timesR (plusR p.z p.z) q.z
  outR (minusR b a) (minusR d c) (plusR d c) (plusR b a)
/-- So many bits of a multiple. -/
def oftR (p : Rt) (n : Nat) : Nat → Rt → Rt
  | 0, out => out
  | i + 1, out => oftR p n i (if n / 2 ^ i % 2 = 1 then sumR (sumR out out) p else sumR out out)
def oftenR (n : Nat) (p : Rt) : Rt := oftR p n 256 neutralR
/-- 32 bytes of a number, the least first. -/
def toL (v : Nat) : List UInt8 := (List.range 32).map fun j => UInt8.ofNat (v / 2 ^ (8 * j))
def ofL : List UInt8 → Nat
  | [] => 0
  | b :: l => b.toNat + 256 * ofL l
def encodeR (p : Rt) : List UInt8 :=
  let z := invR p.z
  let x := timesR p.x z % pR
  let y := toL (timesR p.y z % pR)
  y.set 31 (y.getD 31 0 ||| UInt8.ofNat (x % 2 * 128))
/-- What Decode makes of a number below 2^255 and the bit above it. -/
def decodeR (v odd : Nat) : Option Rt :=
  if ¬ v < pR then none else
  let yy := timesR v v
  let a := timesR (minusR yy 1) (invR (plusR (timesR dR yy) 1))
  if (rtR a).2 = false then none else
  let x := (rtR a).1
  if x = 0 ∧ odd = 1 then none else
  let x := if x % 2 = odd then x else minusR 0 x % pR
  some ⟨x, v, 1, timesR x v⟩
def genR : Nat := 46316835694926478169428394003475163141307993866256225615783033603165251855960
def baseR (n : Nat) : List UInt8 := encodeR (oftenR n ((decodeR genR 0).getD ⟨0, 0, 0, 0⟩))
/-- For the kernel. -/
def powRK (a e : Nat) : Nat → Nat → Nat
  | 0, out => out
  | i + 1, out => forceN (timesR out out) fun s => forceN (if e / 2 ^ i % 2 = 1 then timesR s a else s) (powRK a e i)
theorem powRK_eq (a e : Nat) : ∀ (i out : Nat), powRK a e i out = powR a e i out
  | 0, _ => rfl
  | i + 1, out => by rw [powRK, forceN_eq, forceN_eq, powRK_eq a e i, powR]
def forceR {α : Type} (p : Rt) (f : Rt → α) : α := forceN p.x fun x => forceN p.y fun y => forceN p.z fun z => forceN p.t fun t => f ⟨x, y, z, t⟩
theorem forceR_eq {α : Type} (p : Rt) (f : Rt → α) : forceR p f = f p := by simp only [forceR, forceN_eq]
def sumRK (p q : Rt) : Rt :=
  forceN (timesR (minusR p.y p.x) (minusR q.y q.x)) fun a => forceN (timesR (plusR p.y p.x) (plusR q.y q.x)) fun b =>
  forceN (timesR (timesR p.t q.t) (plusR dR dR)) fun c => forceN (timesR (plusR p.z p.z) q.z) fun d =>
  forceN (minusR b a) fun e => forceN (minusR d c) fun g => forceN (plusR d c) fun h => forceN (plusR b a) fun i => outR e g h i
theorem sumRK_eq (p q : Rt) : sumRK p q = sumR p q := by
  simp only [sumRK, forceN_eq]
  rfl
def oftRK (p : Rt) (n : Nat) : Nat → Rt → Rt
  | 0, out => out
  | i + 1, out => forceR (sumRK out out) fun s => forceR (if n / 2 ^ i % 2 = 1 then sumRK s p else s) (oftRK p n i)
theorem oftRK_eq (p : Rt) (n : Nat) : ∀ (i : Nat) (out : Rt), oftRK p n i out = oftR p n i out
  | 0, _ => rfl
  | i + 1, out => by rw [oftRK, forceR_eq, forceR_eq, sumRK_eq, sumRK_eq, oftRK_eq p n i, oftR]
def encodeRK (p : Rt) : List UInt8 :=
  forceN (powRK p.z (pR - 2) 256 1) fun z => forceN (timesR p.x z % pR) fun x => forceN (timesR p.y z % pR) fun y => (toL y).set 31 ((toL y).getD 31 0 ||| UInt8.ofNat (x % 2 * 128))
theorem encodeRK_eq (p : Rt) : encodeRK p = encodeR p := by
  simp only [encodeRK, forceN_eq, powRK_eq]
  rfl
def baseRK (g : Rt) (n : Nat) : List UInt8 := forceR (oftRK g n 256 neutralR) encodeRK
theorem baseRK_eq (g : Rt) (n : Nat) (h : decodeR genR 0 = some g) : baseRK g n = baseR n := by
  rw [baseRK, forceR_eq, encodeRK_eq, oftRK_eq, baseR, h]
  rfl
theorem powerR_eq (a e : Nat) : powRK a e 256 1 = powerR a e := powRK_eq a e 256 1
end Go.Proofs.YtnhdepmalejclaaGreatDoor

namespace Go.Proofs.YtnhdepmalejclaaGreatDoor
open Go.RowKit Go.Lib
def pM : Nat → Nat
  | 0 => 1
  | 1 => 18446744073709551616
  | 2 => 340282366920938463463374607431768211456
  | 3 => 6277101735386680763835789423207666416102355444464034512896
  | _ => 115792089237316195423570985008687907853269984665640564039457584007913129639936
def nw (v : Nat) : Nat → Nat
  | 0 => v % 18446744073709551616
  | 1 => v / 18446744073709551616 % 18446744073709551616
  | 2 => v / 340282366920938463463374607431768211456 % 18446744073709551616
  | _ => v / 6277101735386680763835789423207666416102355444464034512896 % 18446744073709551616
/-- A number below 2^256, in its words. -/
def nc (v : Nat) : Array Value := #[.int .u64 (nw v 0 : Int), .int .u64 (nw v 1 : Int), .int .u64 (nw v 2 : Int), .int .u64 (nw v 3 : Int)]
theorem nc_cells (v : Nat) : ((nc v).all fun x => x.oneCell') = true := by kernel_rfl
theorem nc_at (v : Nat) {k : Nat} (hk : k < 4) : (nc v)[k]? = some (.int .u64 (nw v k : Int)) := by
  obtain rfl | rfl | rfl | rfl : k = 0 ∨ k = 1 ∨ k = 2 ∨ k = 3 := by omega
  all_goals rfl
theorem nw_lt (v : Nat) (k : Nat) : nw v k < 18446744073709551616 := by
  unfold nw; split <;> exact Nat.mod_lt _ (by decide)
theorem nc_mod (s : Nat) : nc (s % 115792089237316195423570985008687907853269984665640564039457584007913129639936) = nc s := by
  have h0 : nw (s % 115792089237316195423570985008687907853269984665640564039457584007913129639936) 0 = nw s 0 := by simp only [nw]; omega
  have h1 : nw (s % 115792089237316195423570985008687907853269984665640564039457584007913129639936) 1 = nw s 1 := by simp only [nw]; omega
  have h2 : nw (s % 115792089237316195423570985008687907853269984665640564039457584007913129639936) 2 = nw s 2 := by simp only [nw]; omega
  have h3 : nw (s % 115792089237316195423570985008687907853269984665640564039457584007913129639936) 3 = nw s 3 := by simp only [nw]; omega
  unfold nc
  rw [h0, h1, h2, h3]
theorem nc_set (s : Nat) {k : Nat} (hk : k < 4) : (nc (s % pM k)).setIfInBounds k (.int .u64 (nw s k : Int)) = nc (s % pM (k + 1)) := by
  obtain rfl | rfl | rfl | rfl : k = 0 ∨ k = 1 ∨ k = 2 ∨ k = 3 := by omega
  · have h0 : nw s 0 = nw (s % pM 1) 0 := by simp only [nw, pM]; omega
    have h1 : nw (s % pM 0) 1 = nw (s % pM 1) 1 := by simp only [nw, pM]; omega
    have h2 : nw (s % pM 0) 2 = nw (s % pM 1) 2 := by simp only [nw, pM]; omega
    have h3 : nw (s % pM 0) 3 = nw (s % pM 1) 3 := by simp only [nw, pM]; omega
    unfold nc
    rw [h0, h1, h2, h3]; rfl
  · have h0 : nw s 1 = nw (s % pM 2) 1 := by simp only [nw, pM]; omega
    have h1 : nw (s % pM 1) 0 = nw (s % pM 2) 0 := by simp only [nw, pM]; omega
    have h2 : nw (s % pM 1) 2 = nw (s % pM 2) 2 := by simp only [nw, pM]; omega
    have h3 : nw (s % pM 1) 3 = nw (s % pM 2) 3 := by simp only [nw, pM]; omega
    unfold nc
    rw [h0, h1, h2, h3]; rfl
  · have h0 : nw s 2 = nw (s % pM 3) 2 := by simp only [nw, pM]; omega
    have h1 : nw (s % pM 2) 0 = nw (s % pM 3) 0 := by simp only [nw, pM]; omega
    have h2 : nw (s % pM 2) 1 = nw (s % pM 3) 1 := by simp only [nw, pM]; omega
    have h3 : nw (s % pM 2) 3 = nw (s % pM 3) 3 := by simp only [nw, pM]; omega
    unfold nc
    rw [h0, h1, h2, h3]; rfl
  · have h0 : nw s 3 = nw (s % pM 4) 3 := by simp only [nw, pM]; omega
    have h1 : nw (s % pM 3) 0 = nw (s % pM 4) 0 := by simp only [nw, pM]; omega
    have h2 : nw (s % pM 3) 1 = nw (s % pM 4) 1 := by simp only [nw, pM]; omega
    have h3 : nw (s % pM 3) 2 = nw (s % pM 4) 2 := by simp only [nw, pM]; omega
    unfold nc
    rw [h0, h1, h2, h3]; rfl
/-- The carry, the borrow, into the k-th word. -/
def caN (a b k : Nat) : Nat := (a % pM k + b % pM k) / pM k
def boN (a b k : Nat) : Nat := if a % pM k < b % pM k then 1 else 0
theorem caN_le (a b : Nat) {k : Nat} (hk : k ≤ 4) : caN a b k ≤ 1 := by
  obtain rfl | rfl | rfl | rfl | rfl : k = 0 ∨ k = 1 ∨ k = 2 ∨ k = 3 ∨ k = 4 := by omega
  all_goals (simp only [caN, pM]; omega)
theorem boN_le (a b k : Nat) : boN a b k ≤ 1 := by unfold boN; split <;> omega
theorem add_step (a b : Nat) {k : Nat} (hk : k < 4) : (nw a k + nw b k + caN a b k) % 18446744073709551616 = nw (a + b) k ∧ (nw a k + nw b k + caN a b k) / 18446744073709551616 = caN a b (k + 1) := by
  obtain rfl | rfl | rfl | rfl : k = 0 ∨ k = 1 ∨ k = 2 ∨ k = 3 := by omega
  all_goals (simp only [caN, pM, nw]; omega)
theorem sub_step (a b : Nat) (h : b ≤ a) {k : Nat} (hk : k < 4) : (nw a k + 18446744073709551616 - nw b k - boN a b k) % 18446744073709551616 = nw (a - b) k ∧ (if nw a k < nw b k + boN a b k then 1 else 0) = boN a b (k + 1) := by
  obtain rfl | rfl | rfl | rfl : k = 0 ∨ k = 1 ∨ k = 2 ∨ k = 3 := by omega
  all_goals (simp only [boN, pM, nw]; refine ⟨?_, ?_⟩)
  all_goals (repeat' split)
  all_goals omega
end Go.Proofs.YtnhdepmalejclaaGreatDoor

namespace Go.Proofs.YtnhdepmalejclaaGreatDoor
open Go.RowKit Go.Lib
theorem zeroN : ∀ w, (zeroValue 181).run Tryz.prog w = .ok (.agg (nc 0)) w := fun w => by kernel_rfl
theorem retN {w : World} {b v : Nat} {T : TypeId} (h : w.heap[b]? = some (.cells (nc v) T (0, 0))) : (loadVar 181 ⟨b, 0, none⟩).run Tryz.prog w = .ok (.agg (nc v)) w :=
  run_loadVar_mid (P := Tryz.prog) w b 0 181 (nc v).toList _ (range_row h) Tryz.underlying181 rfl (by kernel_rfl)
def NRet (v : Nat) (w : World) (e : Ending) (w' : World) : Prop := e = .returned (.agg (nc v)) ∧ Below w.heap.size w w'
section
variable {w0 w : World} {bs : List (Nat × Array Value × TypeId)} {o : Oper} {a : Act} {rest : List Oper} {ops : Array Oper} {Q : Exit → Act → World → Prop} {F : World → Prop} {K : Act → Prop} {x : Operand} {b off : Nat}
theorem BK.ln (h : BK w0 w bs) (i : Nat) {v : Nat} {t : TypeId} (hi : bs[i]? = some (b, nc v, t)) : ∀ w', Below w.heap.size w w' → w'.rangeAt b 0 (nc v).toList := fun _ hb => range_row ((h.later hb).mem hi)
theorem q_load_n (ho : o.op = .load 181 x) (v : Nat) (hx : a.eval x = .pointer (some ⟨b, off, none⟩)) (hc : ∀ w', Below w.heap.size w w' → w'.rangeAt b off (nc v).toList) (hk : K (a.put o.dst (.agg (nc v)))) : o.quiet Tryz.prog a (fun w' => ∃ n : FS w F, w' = n.val) K :=
  quiet_load_fs 181 x ho b off hx (nc v) _ hc Tryz.underlying181 rfl (by kernel_rfl) hk
theorem s_load_n (hg : o.guard = none) (ho : o.op = .load 181 x) (v : Nat) (hx : a.eval x = .pointer (some ⟨b, off, none⟩)) (hc : ∀ w', Below w.heap.size w w' → w'.rangeAt b off (nc v).toList) (h : wpList Tryz.prog ops Q rest (a.put o.dst (.agg (nc v))) w) : wpList Tryz.prog ops Q (o :: rest) a w :=
  wpList_load_arr hg 181 x ho b off hx (nc v) _ (hc w (Below.refl _ _)) Tryz.underlying181 rfl (by kernel_rfl) h
end
theorem run_sub (a b : Nat) (h : b ≤ a) {k : Nat} (hk : k < 4) (w : World) : (callFunc 219 #[.int .u64 (nw a k : Int), .int .u64 (nw b k : Int), .int .u64 (boN a b k : Int)]).run Tryz.prog w = .ok (.value (.tuple #[.int .u64 (nw (a - b) k : Int), .int .u64 (boN a b (k + 1) : Int)])) w := by
  rw [run_Sub64 _ _ _ (boN_le _ _ _), (sub_step a b h hk).1, (sub_step a b h hk).2]
theorem run_add (a b : Nat) {k : Nat} (hk : k < 4) (w : World) : (callFunc 132 #[.int .u64 (nw a k : Int), .int .u64 (nw b k : Int), .int .u64 (caN a b k : Int)]).run Tryz.prog w = .ok (.value (.tuple #[.int .u64 (nw (a + b) k : Int), .int .u64 (caN a b (k + 1) : Int)])) w := by
  rw [run_Add64 _ _ _ (caN_le _ _ (by omega)), (add_step a b hk).1, (add_step a b hk).2]
set_option maxRecDepth 100000 in
set_option maxHeartbeats 1000000 in
theorem lessR_any (a b : Nat) (ha : a < 115792089237316195423570985008687907853269984665640564039457584007913129639936) (h : b ≤ a) (w : World) : Calls Tryz.prog 185 #[.agg (nc a), .agg (nc b)] w (NRet (a - b) w) := by
  have F0 := Lib.hid (BK.start w)
  have T0 : Hid True := trivial
  have HAB := Lib.hid h
  have HE : Hid ((a - b) % pM 4 = a - b) := by show _ = _; simp only [pM]; omega
  obtain ⟨s, hs⟩ : ∃ s, s = a - b := ⟨_, rfl⟩
  have HS := Lib.hid hs
  rw [← hs] at HE ⊢
  clear h ha hs
  go_enter Tryz.func185, Tryz.ntmps185
  go_wp2_with (first
    | (have hx_ := T0; refine s_box F0.out rfl rfl rfl rfl ?_; clear hx_ T0; intro w1 b1 h1 _; have F1 := Lib.hid h1; clear h1 F0; have T1 : Hid True := trivial)
    | (have hx_ := T1; refine s_box F1.out rfl rfl rfl rfl ?_; clear hx_ T1; intro w2 b2 h1 _; have F2 := Lib.hid h1; clear h1 F1; have T2 : Hid True := trivial)
    | (have hx_ := T2; refine s_alloc F2.out rfl rfl zeroN rfl ?_; clear hx_ T2; intro w3 b3 h1 _; have F3 := Lib.hid h1; clear h1 F2; have T3 : Hid True := trivial)
    | (have hx_ := T3; refine s_alloc F3.out rfl rfl zeroN rfl ?_; clear hx_ T3; intro w4 b4 h1 _; have F4 := Lib.hid h1; clear h1 F3))
  go_loopw [6, 8] (fun cv iv wr => ∃ k : Nat, k ≤ 4 ∧ iv = .int .i64 (k : Int) ∧ cv = .int .u64 (boN a b k : Int) ∧ Hid (BK w wr [(b4, nc (s % pM k), 181), (b3, nc 0, 181), (b2, nc b, 181), (b1, nc a, 181)])) (fun _ i _ => 4 - (Go.RowKit.intOf i).toNat)
  case atStart => exact ⟨0, Nat.zero_le _, rfl, by simp [boN, pM, Nat.mod_one], by show BK _ _ _; rw [show s % pM 0 = 0 from Nat.mod_one _]; exact F4.out⟩
  case round =>
    obtain ⟨k, hk, rfl, rfl, hF⟩ := hrel
    clear F4
    by_cases hlt : k < 4
    · have hlt' : (k : Int) < 4 := by omega
      have hk0 : (0 : Int) ≤ (k : Int) := by omega
      have hrun := run_sub a b HAB.out hlt
      rw [← HS.out] at hrun
      have Hrun := Lib.hid hrun
      have HL := Lib.hid hlt
      clear hlt hk hrun
      go_wp2
      refine AnyC.startB (fun w' => w'.cell? ⟨b1, k, none⟩ = some (.int .u64 (nw a k : Int)) ∧ w'.cell? ⟨b2, k, none⟩ = some (.int .u64 (nw b k : Int))) (by kernel_rfl) rfl ?_
      intro wd hbd _
      have h4 := Lib.hid (hF.out.later hbd)
      clear hbd hF
      apply AnyC.take (i := 0) rfl (by kernel_rfl) rfl
      · intro w' hC K hK
        go_wp2
        exact hK
      · rfl
      apply AnyC.take (i := 1) rfl (by kernel_rfl) rfl
      · intro w' hC K hK
        go_wp2
        exact hK
      · rfl
      apply AnyC.take (i := 2) rfl (by kernel_rfl) rfl
      · intro w' hC K hK
        go_wp2
        exact hK
      · rfl
      apply AnyC.take (i := 3) rfl (by kernel_rfl) rfl
      · intro w' hC K hK
        obtain ⟨cx, _⟩ := hC
        go_wp2
        exact hK
      · rfl
      apply AnyC.take (i := 4) rfl (by kernel_rfl) rfl
      · intro w' hC K hK
        go_wp2
        exact hK
      · rfl
      apply AnyC.take (i := 5) rfl (by kernel_rfl) rfl
      · intro w' hC K hK
        go_wp2
        exact hK
      · rfl
      apply AnyC.take (i := 6) rfl (by kernel_rfl) rfl
      · intro w' hC K hK
        obtain ⟨_, cy⟩ := hC
        go_wp2
        exact hK
      · rfl
      apply AnyC.take (i := 7) rfl (by kernel_rfl) rfl
      · intro w' hC K hK
        go_wp2
        exact hK
      · rfl
      apply AnyC.take (i := 8) rfl (by kernel_rfl) rfl
      · intro w' hC K hK
        have hrun := Hrun.out w'
        go_wp2
        exact hK
      · rfl
      apply AnyC.take (i := 9) rfl (by kernel_rfl) rfl
      · intro w' hC K hK
        go_wp2
        exact hK
      · rfl
      apply AnyC.take (i := 10) rfl (by kernel_rfl) rfl
      · intro w' hC K hK
        go_wp2
        exact hK
      · rfl
      apply AnyC.take (i := 11) rfl (by kernel_rfl) rfl
      · intro w' hC K hK
        go_wp2
        exact hK
      · rfl
      apply AnyC.take (i := 12) rfl (by kernel_rfl) rfl
      · intro w' hC K hK
        go_wp2
        exact hK
      · rfl
      apply AnyC.solo (i := 13) rfl (by kernel_rfl) ⟨(h4.out.cell 3 rfl k).trans (nc_at a HL.out), (h4.out.cell 2 rfl k).trans (nc_at b HL.out)⟩
      go_wp2_with (refine s_set64 h4.out rfl rfl 0 rfl k (by show k < 4; exact HL.out) rfl _ rfl ?_; intro w5 h5; simp only [List.set_cons_zero] at h5; rw [nc_set s HL.out] at h5; have F5 := Lib.hid h5; clear h5)
      refine ⟨rfl, ?_⟩
      apply AnyC.take (i := 14) rfl (by kernel_rfl) rfl
      · intro w' hC K hK
        go_wp2
        exact hK
      · rfl
      refine AnyC.done ⟨(F5.out.cell 3 rfl k).trans (nc_at a HL.out), (F5.out.cell 2 rfl k).trans (nc_at b HL.out)⟩ (by kernel_rfl) ?_
      go_wp2
      go_roundw
      case rel => exact ⟨k + 1, HL.out, by go_num, rfl, F5.out⟩
      case measure => simp [Go.RowKit.intOf]; have := HL.out; omega
    · obtain rfl : k = 4 := by omega
      have hd : decide (((4 : Nat) : Int) < 4) = false := by decide
      rw [HE.out] at hF
      go_wp2_with (first
        | (refine s_load_n rfl rfl s rfl (hF.out.ln 0 rfl) ?_)
        | (refine s_store hF.out rfl rfl 1 rfl rfl (nc s) rfl rfl (by kernel_rfl) (nc_cells _) ?_; intro w5 h1; have F5 := Lib.hid h1; clear h1 hF))
      exact bodyPost_ret (v := .agg (nc s)) (by simp [results, Tryz.results185, asAddr]; exact retN (F5.out.mem (i := 1) rfl)) rfl ⟨rfl, F5.out.below⟩
end Go.Proofs.YtnhdepmalejclaaGreatDoor

namespace Go.Proofs.YtnhdepmalejclaaGreatDoor
open Go.RowKit Go.Lib
/-- The first k words of s, the others of v. -/
def mixC (v s k : Nat) : Array Value := #[.int .u64 ((if 0 < k then nw s 0 else nw v 0 : Nat) : Int), .int .u64 ((if 1 < k then nw s 1 else nw v 1 : Nat) : Int), .int .u64 ((if 2 < k then nw s 2 else nw v 2 : Nat) : Int), .int .u64 ((if 3 < k then nw s 3 else nw v 3 : Nat) : Int)]
theorem mix_set (v s : Nat) {k : Nat} (hk : k < 4) : (mixC v s k).setIfInBounds k (.int .u64 (nw s k : Int)) = mixC v s (k + 1) := by
  obtain rfl | rfl | rfl | rfl : k = 0 ∨ k = 1 ∨ k = 2 ∨ k = 3 := by omega
  all_goals rfl
theorem mix_at (v s : Nat) {k : Nat} (hk : k < 4) : (mixC v s k)[k]? = some (.int .u64 (nw v k : Int)) := by
  obtain rfl | rfl | rfl | rfl : k = 0 ∨ k = 1 ∨ k = 2 ∨ k = 3 := by omega
  all_goals rfl
theorem run_add0 (a b : Nat) (w : World) : (callFunc 132 #[.int .u64 (nw a 0 : Int), .int .u64 (nw b 0 : Int), .int .u64 0]).run Tryz.prog w = .ok (.value (.tuple #[.int .u64 (nw (a + b) 0 : Int), .int .u64 (caN a b 1 : Int)])) w := by
  have h := run_add a b (k := 0) (by decide) w
  rw [show caN a b 0 = 0 from by simp only [caN, pM]; omega] at h
  exact h
theorem fold_step {v h : Nat} (hv : v < 115792089237316195423570985008687907853269984665640564039457584007913129639936) (hh : h < 18446744073709551616) (h0 : h ≠ 0) :
    foldR ((v + h * 38) % 115792089237316195423570985008687907853269984665640564039457584007913129639936) ((v + h * 38) / 115792089237316195423570985008687907853269984665640564039457584007913129639936) = foldR v h := by
  unfold foldR
  rw [if_neg h0]
  by_cases hc : v + 38 * h < 115792089237316195423570985008687907853269984665640564039457584007913129639936
  · rw [if_pos (by omega), if_pos hc]
    omega
  · rw [if_neg hc, if_neg (by omega), if_pos (by omega)]
    omega
def mF (v h : Nat) : Nat := if h = 0 then 0 else if v + h * 38 < 115792089237316195423570985008687907853269984665640564039457584007913129639936 then 1 else 2
theorem mF_step {v h : Nat} (hv : v < 115792089237316195423570985008687907853269984665640564039457584007913129639936) (hh : h < 18446744073709551616) (h0 : h ≠ 0) :
    mF ((v + h * 38) % 115792089237316195423570985008687907853269984665640564039457584007913129639936) ((v + h * 38) / 115792089237316195423570985008687907853269984665640564039457584007913129639936) < mF v h := by
  unfold mF
  rw [if_neg h0]
  by_cases hc : v + h * 38 < 115792089237316195423570985008687907853269984665640564039457584007913129639936
  · rw [if_pos hc, if_pos (by omega)]
    decide
  · rw [if_neg hc, if_neg (by omega), if_pos (by omega)]
    decide
theorem ca_four {v B : Nat} (hv : v < 115792089237316195423570985008687907853269984665640564039457584007913129639936) (hB : B < 115792089237316195423570985008687907853269984665640564039457584007913129639936) : caN v B 4 = (v + B) / 115792089237316195423570985008687907853269984665640564039457584007913129639936 := by
  simp only [caN, pM]
  rw [Nat.mod_eq_of_lt hv, Nat.mod_eq_of_lt hB]
def cellsAt (w : World) (b : Nat) : Array Value := match w.heap[b]? with | some (.cells cs _ _) => cs | _ => #[]
/-- The number that lies in a block. -/
def numAt (w : World) (b : Nat) : Nat := (Go.RowKit.intOf ((cellsAt w b).getD 0 undef)).toNat + 18446744073709551616 * (Go.RowKit.intOf ((cellsAt w b).getD 1 undef)).toNat + 340282366920938463463374607431768211456 * (Go.RowKit.intOf ((cellsAt w b).getD 2 undef)).toNat + 6277101735386680763835789423207666416102355444464034512896 * (Go.RowKit.intOf ((cellsAt w b).getD 3 undef)).toNat
theorem numAt_of {w : World} {b v : Nat} {t : TypeId} (h : w.heap[b]? = some (.cells (nc v) t (0, 0))) (hv : v < 115792089237316195423570985008687907853269984665640564039457584007913129639936) : numAt w b = v := by
  unfold numAt cellsAt
  rw [h]
  simp only [nc, List.getElem?_toArray, Array.getD_eq_getD_getElem?, List.getElem?_cons_zero, List.getElem?_cons_succ, Option.getD_some, Go.RowKit.intOf, Int.toNat_natCast, nw]
  omega
set_option maxRecDepth 100000 in
set_option maxHeartbeats 1000000 in
theorem fold_any (v0 h0 : Nat) (hv : v0 < 115792089237316195423570985008687907853269984665640564039457584007913129639936) (hh : h0 < 18446744073709551616) (w : World) : Calls Tryz.prog 181 #[.agg (nc v0), .int .u64 (h0 : Int)] w (NRet (foldR v0 h0) w) := by
  have F0 := Lib.hid (BK.start w)
  have T0 : Hid True := trivial
  have HV := Lib.hid hv
  have HH := Lib.hid hh
  obtain ⟨R, hR⟩ : ∃ R, R = foldR v0 h0 := ⟨_, rfl⟩
  have HR := Lib.hid hR
  rw [← hR]
  clear hv hh hR
  go_enter Tryz.func181, Tryz.ntmps181
  go_wp2_with (first
    | (have hx_ := T0; refine s_box F0.out rfl rfl rfl rfl ?_; clear hx_ T0; intro w1 b1 h1 _; have F1 := Lib.hid h1; clear h1 F0; have T1 : Hid True := trivial)
    | (have hx_ := T1; refine s_alloc F1.out rfl rfl zeroN rfl ?_; clear hx_ T1; intro w2 b2 h1 _; have F2 := Lib.hid h1; clear h1 F1))
  try simp only [Act.put]
  try simp only [List.setIfInBounds_toArray, List.set_cons_succ, List.set_cons_zero]
  go_loopw [1] (fun hv wr => ∃ v h : Nat, hv = .int .u64 (h : Int) ∧ Hid (v < 115792089237316195423570985008687907853269984665640564039457584007913129639936 ∧ h < 18446744073709551616 ∧ foldR v h = R ∧ BK w wr [(b2, nc 0, 181), (b1, nc v, 181)])) (fun hv wr => mF (numAt wr b1) (Go.RowKit.intOf hv).toNat)
  case atStart => exact ⟨v0, h0, rfl, HV.out, HH.out, HR.out.symm, F2.out⟩
  case round =>
    obtain ⟨v, h, rfl, hA⟩ := hrel
    clear F2
    have hF := Lib.hid hA.out.2.2.2
    have hv := Lib.hid hA.out.1
    have hh := Lib.hid hA.out.2.1
    have hE := Lib.hid hA.out.2.2.1
    clear hA
    by_cases h0' : h = 0
    · have hq : ((h : Int) != 0) = false := by rw [h0']; rfl
      have HE : Hid (v = R) := by
        have := hE.out
        show v = R
        rw [h0'] at this
        exact this
      clear h0'
      go_wp2_with (first
        | (refine s_load_n rfl rfl v rfl (hF.out.ln 1 rfl) ?_)
        | (refine s_store hF.out rfl rfl 0 rfl rfl (nc v) rfl rfl (by kernel_rfl) (nc_cells _) ?_; intro w5 h1; have F5 := Lib.hid h1; clear h1 hF))
      exact bodyPost_ret (v := .agg (nc v)) (by simp [results, Tryz.results181, asAddr]; exact retN (F5.out.mem (i := 0) rfl)) rfl ⟨by rw [HE.out], F5.out.below⟩
    · have hq : ((h : Int) != 0) = true := bne_iff_ne.2 (by omega)
      have Hm := Lib.hid (fun w => Mul64_any h 38 hh.out (by decide) w)
      have HB : Hid (h * 38 < 115792089237316195423570985008687907853269984665640564039457584007913129639936) := by show _ < _; have := hh.out; omega
      have Hc := Lib.hid (ca_four hv.out HB.out)
      have HS := Lib.hid (fold_step hv.out hh.out h0')
      have HM := Lib.hid (mF_step hv.out hh.out h0')
      have e0 : h * 38 % 18446744073709551616 = nw (h * 38) 0 := rfl
      have e1 : h * 38 / 18446744073709551616 = nw (h * 38) 1 := by have := hh.out; simp only [nw]; omega
      have hlt38 : h * 38 < 340282366920938463463374607431768211456 := by have := hh.out; omega
      have e2 : nw (h * 38) 2 = 0 := by simp only [nw]; rw [Nat.div_eq_of_lt hlt38]
      have e3 : nw (h * 38) 3 = 0 := by simp only [nw]; rw [Nat.div_eq_of_lt (Nat.lt_trans hlt38 (by decide))]
      have HNA := Lib.hid (numAt_of (hF.out.mem (i := 1) rfl) hv.out)
      clear hlt38
      obtain ⟨B, hB⟩ : ∃ B, B = h * 38 := ⟨_, rfl⟩
      rw [← hB] at e0 e1 e2 e3 Hc HS HM HB
      have r0 := run_add0 v B
      have r1 := run_add v B (k := 1) (by decide)
      have r2 := run_add v B (k := 2) (by decide)
      have r3 := run_add v B (k := 3) (by decide)
      rw [e2] at r2
      rw [e3] at r3
      simp only [Int.natCast_zero, Nat.reduceAdd] at r0 r1 r2 r3
      have Hm2 : Hid (∀ w, Calls Tryz.prog 131 #[.int .u64 (h : Int), .int .u64 38] w fun e w' => e = .returned (.tuple #[.int .u64 (nw B 1 : Int), .int .u64 (nw B 0 : Int)]) ∧ w' = w) := fun w => by
        have h1 := Hm.out w
        rw [← hB, e0, e1] at h1
        exact h1
      rw [hB] at e0
      clear Hm e0 e1 e2 e3 h0'
      have HBB := Lib.hid hB
      clear hB
      obtain ⟨S, hS⟩ : ∃ S, S = v + B := ⟨_, rfl⟩
      rw [← hS] at r0 r1 r2 r3 Hc HS HM
      have c0 := (hF.out.cell 1 rfl 0).trans (nc_at v (by decide))
      have T0 : Hid True := trivial
      have hF0 : Hid (BK w wr [(b2, nc 0, 181), (b1, mixC v S 0, 181)]) := hF
      clear hF hS
      go_wp2_with (first
        | (go_at_call 131; refine (Hm2.out _).mono ?_; rintro e wm ⟨rfl, h3⟩; have h3 := h3.symm; subst h3)
        | (have hx_ := T0; refine s_set64 hF0.out rfl rfl 1 rfl 0 (by show 0 < 4; decide) rfl _ rfl ?_; clear hx_ T0 c0; intro w3 h3; simp only [List.set_cons_succ, List.set_cons_zero] at h3; rw [mix_set v S (by decide)] at h3; have c1 := (h3.cell 1 rfl 1).trans (mix_at v S (k := 1) (by decide)); have hF1 := Lib.hid h3; clear h3 hF0; have T1 : Hid True := trivial)
        | (have hx_ := T1; refine s_set64 hF1.out rfl rfl 1 rfl 1 (by show 1 < 4; decide) rfl _ rfl ?_; clear hx_ T1 c1; intro w4 h3; simp only [List.set_cons_succ, List.set_cons_zero] at h3; rw [mix_set v S (by decide)] at h3; have c2 := (h3.cell 1 rfl 2).trans (mix_at v S (k := 2) (by decide)); have hF2 := Lib.hid h3; clear h3 hF1; have T2 : Hid True := trivial)
        | (have hx_ := T2; refine s_set64 hF2.out rfl rfl 1 rfl 2 (by show 2 < 4; decide) rfl _ rfl ?_; clear hx_ T2 c2; intro w5 h3; simp only [List.set_cons_succ, List.set_cons_zero] at h3; rw [mix_set v S (by decide)] at h3; have c3 := (h3.cell 1 rfl 3).trans (mix_at v S (k := 3) (by decide)); have hF3 := Lib.hid h3; clear h3 hF2; have T3 : Hid True := trivial)
        | (have hx_ := T3; refine s_set64 hF3.out rfl rfl 1 rfl 3 (by show 3 < 4; decide) rfl _ rfl ?_; clear hx_ T3 c3; intro w6 h3; simp only [List.set_cons_succ, List.set_cons_zero] at h3; rw [mix_set v S (by decide)] at h3; have hF4 := Lib.hid h3; clear h3 hF3))
      have F5 : Hid (BK w w6 [(b2, nc 0, 181), (b1, nc (S % 115792089237316195423570985008687907853269984665640564039457584007913129639936), 181)]) := by
        show BK _ _ _
        rw [nc_mod]
        exact hF4.out
      go_roundw
      case rel => exact ⟨_, caN v B 4, rfl, Nat.mod_lt _ (by decide), Nat.lt_of_le_of_lt (caN_le _ _ (by decide)) (by decide), by rw [Hc.out, HS.out]; exact hE.out, F5.out⟩
      case measure =>
        rw [numAt_of (F5.out.mem (i := 1) rfl) (Nat.mod_lt _ (by decide)), HNA.out]
        simp only [Go.RowKit.intOf, Int.toNat_natCast]
        rw [Hc.out]
        exact HM.out
end Go.Proofs.YtnhdepmalejclaaGreatDoor
