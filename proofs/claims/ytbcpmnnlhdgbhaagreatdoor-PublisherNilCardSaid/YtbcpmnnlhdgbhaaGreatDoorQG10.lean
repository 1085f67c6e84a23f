/- The texts FE2 FE3 Fun4 FE4 of this work, merged by wip/merge.py. No conditions. -/
import Derived.Test.YtbcpmnnlhdgbhaaGreatDoorQG09
import Derived.Test.YtbcpmnnlhdgbhaaGreatDoorQG04
import Derived.Test.YtbcpmnnlhdgbhaaGreatDoorQG08
import Derived.BigQuiet
import Derived.Laws.Tables
namespace Go.Proofs.YtbcpmnnlhdgbhaaGreatDoor
open Go.RowKit Go.Lib
/-- A number of 128 bits, in its two words. -/
def wcs (W : Nat) : Array Value := #[.int .u64 ((W / 18446744073709551616 : Nat) : Int), .int .u64 ((W % 18446744073709551616 : Nat) : Int)]
theorem wcs_cells (W : Nat) : ((wcs W).all fun v => v.oneCell') = true := by kernel_rfl
theorem zeroW : ∀ w, (zeroValue 346).run Tryz.prog w = .ok (.agg (wcs 0)) w := fun w => by kernel_rfl
theorem retW {w : World} {b : Nat} {W : Nat} {T : TypeId} (h : w.heap[b]? = some (.cells (wcs W) T (0, 0))) : (loadVar 346 ⟨b, 0, none⟩).run Tryz.prog w = .ok (.agg (wcs W)) w :=
  run_loadVar_mid (P := Tryz.prog) w b 0 346 (wcs W).toList _ (range_row h) Tryz.underlying346 rfl (by kernel_rfl)
theorem addW_parts (W u v : Nat) : (wcs (addW W u v)) = #[.int .u64 (IntKind.u64.wrap (IntKind.u64.wrap (((W / 18446744073709551616 : Nat) : Int) + ((u * v / 18446744073709551616 : Nat) : Int)) + (((u * v % 18446744073709551616 + W % 18446744073709551616 + 0) / 18446744073709551616 : Nat) : Int))), .int .u64 (((u * v % 18446744073709551616 + W % 18446744073709551616 + 0) % 18446744073709551616 : Nat) : Int)] := by
  unfold wcs addW
  generalize u * v = P
  rw [wadd, wadd]
  have h1 : (W + P) % 340282366920938463463374607431768211456 / 18446744073709551616 = ((W / 18446744073709551616 + P / 18446744073709551616) % 18446744073709551616 + (P % 18446744073709551616 + W % 18446744073709551616 + 0) / 18446744073709551616) % 18446744073709551616 := by omega
  have h2 : (W + P) % 340282366920938463463374607431768211456 % 18446744073709551616 = (P % 18446744073709551616 + W % 18446744073709551616 + 0) % 18446744073709551616 := by omega
  rw [h1, h2]
def WRet (W : Nat) (w : World) (e : Ending) (w' : World) : Prop := e = .returned (.agg (wcs W)) ∧ Below w.heap.size w w'
theorem BK.w2 {w0 w : World} {bs : List (Nat × Array Value × TypeId)} (h : BK w0 w bs) (i : Nat) {b : Nat} {W : Nat} {t : TypeId} (hi : bs[i]? = some (b, wcs W, t)) : w.cell? ⟨b, 0, none⟩ = some (.int .u64 ((W / 18446744073709551616 : Nat) : Int)) ∧ w.cell? ⟨b, 1, none⟩ = some (.int .u64 ((W % 18446744073709551616 : Nat) : Int)) :=
  ⟨h.cell i hi 0, h.cell i hi 1⟩
set_option maxRecDepth 100000 in
set_option maxHeartbeats 400000 in
theorem wadd_any (W u v : Nat) (hu : u < 18446744073709551616) (hv : v < 18446744073709551616) (w : World) : Calls Tryz.prog 234 #[.agg (wcs W), .int .u64 (u : Int), .int .u64 (v : Int)] w (WRet (addW W u v) w) := by
  have F0 := Lib.hid (BK.start w)
  have Hm := Lib.hid (fun w => Mul64_any u v hu hv w)
  have Ha := Lib.hid (fun w => run_Add64 (u * v % 18446744073709551616) (W % 18446744073709551616) 0 (by decide) w)
  have Hp := Lib.hid (addW_parts W u v)
  clear hu hv
  obtain ⟨ph, hph⟩ : ∃ n, n = u * v / 18446744073709551616 := ⟨_, rfl⟩
  obtain ⟨pl, hpl⟩ : ∃ n, n = u * v % 18446744073709551616 := ⟨_, rfl⟩
  obtain ⟨wh, hwh⟩ : ∃ n, n = W / 18446744073709551616 := ⟨_, rfl⟩
  obtain ⟨wl, hwl⟩ : ∃ n, n = W % 18446744073709551616 := ⟨_, rfl⟩
  rw [← hph, ← hpl] at Hm
  rw [← hpl, ← hwl] at Ha
  rw [← hph, ← hpl, ← hwh, ← hwl] at Hp
  obtain ⟨cs, hcs⟩ : ∃ cs, wcs W = cs := ⟨_, rfl⟩
  have Hcs : Hid (cs = #[.int .u64 (wh : Int), .int .u64 (wl : Int)]) := by show _ = _; rw [← hcs, hwh, hwl]; rfl
  rw [hcs]
  obtain ⟨s1, hs1⟩ : ∃ n, n = (pl + wl + 0) % 18446744073709551616 := ⟨_, rfl⟩
  obtain ⟨c1, hc1⟩ : ∃ n, n = (pl + wl + 0) / 18446744073709551616 := ⟨_, rfl⟩
  rw [← hs1, ← hc1] at Ha Hp
  clear hph hpl hwh hwl hcs hs1 hc1
  have hrun : ∀ w, (callFunc 181 #[.int .u64 (pl : Int), .int .u64 (wl : Int), .int .u64 0]).run Tryz.prog w = .ok (.value (.tuple #[.int .u64 (s1 : Int), .int .u64 (c1 : Int)])) w := Ha.out
  go_enter Tryz.func234, Tryz.ntmps234
  go_wp2_with (first
    | (have hx_ := F0; refine s_box hx_.out rfl rfl rfl rfl ?_; clear F0 hx_; intro w1 b1 h1 _; have F1 := Lib.hid h1; clear h1)
    | (have hx_ := F1; refine s_alloc hx_.out rfl rfl zeroW rfl ?_; clear F1 hx_; intro w2 b2 h1 _; have e0 := h1.cell 1 rfl 0; have e1 := h1.cell 1 rfl 1; rw [Hcs.out] at e0 e1; simp only [List.getElem?_toArray, List.getElem?_cons_zero, List.getElem?_cons_succ] at e0 e1; have F2 := Lib.hid h1; clear h1)
    | (go_at_call 180; refine (Hm.out _).mono ?_; rintro e w3 ⟨rfl, h3⟩; subst h3)
    | (have hx_ := F2; refine s_store hx_.out rfl rfl 0 rfl rfl (wcs (addW W u v)) (by rw [Hp.out]; rfl) rfl (by kernel_rfl) (wcs_cells _) ?_; clear F2 hx_ e0 e1; intro w4 h1; have F4 := Lib.hid h1; clear h1))
  exact bodyPost_ret (v := .agg (wcs (addW W u v))) (by simp [results, Tryz.results234, asAddr]; exact retW (F4.out.mem (i := 0) rfl)) rfl ⟨rfl, F4.out.below⟩
theorem or13 {h l : Nat} (hl : l < 18446744073709551616) : bits BinOp.or IntKind.u64 (IntKind.u64.wrap ((h : Int) * 8192)) ((l : Int) / 2251799813685248) = ((h * 8192 % 18446744073709551616 + l / 2251799813685248 : Nat) : Int) := by
  have h1 : (l : Int) / 2251799813685248 = ((l / 2251799813685248 : Nat) : Int) := by omega
  have h2 : IntKind.u64.wrap ((h : Int) * 8192) = ((h % 2251799813685248 * 8192 : Nat) : Int) := by rw [IntKind.wrap_u64]; omega
  rw [h1, h2, bits_or_u64_nat _ _ (by omega) (by omega)]
  congr 1
  have h3 : l / 2251799813685248 < 2 ^ 13 := by omega
  have h4 := Nat.shiftLeft_add_eq_or_of_lt h3 (h % 2251799813685248)
  rw [Nat.shiftLeft_eq] at h4
  rw [show h % 2251799813685248 * 8192 = h % 2251799813685248 * 2 ^ 13 from rfl, ← h4]
  omega
theorem shW_eq {W : Nat} : W / 18446744073709551616 * 8192 % 18446744073709551616 + W % 18446744073709551616 / 2251799813685248 = shW W := by
  unfold shW
  omega
set_option maxRecDepth 100000 in
set_option maxHeartbeats 400000 in
theorem shifted_any (W : Nat) (w : World) : Calls Tryz.prog 235 #[.agg (wcs W)] w (fun e w' => e = .returned (.int .u64 (shW W : Int)) ∧ Below w.heap.size w w') := by
  have F0 := Lib.hid (BK.start w)
  have Hs := Lib.hid (shW_eq (W := W))
  have Hl : Hid (W % 18446744073709551616 < 18446744073709551616) := by show _ < _; omega
  obtain ⟨wh, hwh⟩ : ∃ n, n = W / 18446744073709551616 := ⟨_, rfl⟩
  obtain ⟨wl, hwl⟩ : ∃ n, n = W % 18446744073709551616 := ⟨_, rfl⟩
  rw [← hwh] at Hs
  rw [← hwl] at Hs Hl
  obtain ⟨cs, hcs⟩ : ∃ cs, wcs W = cs := ⟨_, rfl⟩
  have Hcs : Hid (cs = #[.int .u64 (wh : Int), .int .u64 (wl : Int)]) := by show _ = _; rw [← hcs, hwh, hwl]; rfl
  rw [hcs]
  have ho := or13 (h := wh) Hl.out
  rw [Hs.out] at ho
  obtain ⟨r, hr⟩ : ∃ r : Nat, r = shW W := ⟨_, rfl⟩
  rw [← hr] at ho ⊢
  clear hwh hwl hcs hr
  go_enter Tryz.func235, Tryz.ntmps235
  go_wp2_with (have hx_ := F0; refine s_box hx_.out rfl rfl rfl rfl ?_; clear F0 hx_; intro w1 b1 h1 _; have e0 := h1.cell 0 rfl 0; have e1 := h1.cell 0 rfl 1; rw [Hcs.out] at e0 e1; simp only [List.getElem?_toArray, List.getElem?_cons_zero, List.getElem?_cons_succ] at e0 e1; have F1 := Lib.hid h1; clear h1)
  exact bodyPost_ret (v := .int .u64 (r : Int)) (by simp [results, Tryz.results235]) rfl ⟨rfl, F1.out.below⟩
end Go.Proofs.YtbcpmnnlhdgbhaaGreatDoor

namespace Go.Proofs.YtbcpmnnlhdgbhaaGreatDoor
open Go.RowKit Go.Lib
def preM (x y : E5) : E5 := ⟨subM x.a 4503599627370458 y.a, subM x.b 4503599627370494 y.b, subM x.c 4503599627370494 y.c, subM x.d 4503599627370494 y.d, subM x.e 4503599627370494 y.e⟩
theorem minusE_pre (x y : E5) : minusE x y = carrE (preM x y) := rfl
theorem preM_ok (x y : E5) : (preM x y).ok := ⟨Nat.mod_lt _ (by decide), Nat.mod_lt _ (by decide), Nat.mod_lt _ (by decide), Nat.mod_lt _ (by decide), Nat.mod_lt _ (by decide)⟩
theorem wsub (u k v : Nat) (hv : v < 18446744073709551616) : IntKind.u64.wrap (IntKind.u64.wrap ((u : Int) + (k : Int)) - (v : Int)) = ((subM u k v : Nat) : Int) := by
  rw [wadd, IntKind.wrap_u64]
  unfold subM
  omega
theorem minus_eq {x y : E5} (hy : y.ok) : (#[Value.agg #[.int .u64 (IntKind.u64.wrap (IntKind.u64.wrap ((x.a : Int) + 4503599627370458) - (y.a : Int))), .int .u64 (IntKind.u64.wrap (IntKind.u64.wrap ((x.b : Int) + 4503599627370494) - (y.b : Int))), .int .u64 (IntKind.u64.wrap (IntKind.u64.wrap ((x.c : Int) + 4503599627370494) - (y.c : Int))), .int .u64 (IntKind.u64.wrap (IntKind.u64.wrap ((x.d : Int) + 4503599627370494) - (y.d : Int))), .int .u64 (IntKind.u64.wrap (IntKind.u64.wrap ((x.e : Int) + 4503599627370494) - (y.e : Int)))]] : Array Value) = #[.agg (preM x y).cs] := by
  have h1 := wsub x.a 4503599627370458 y.a hy.1
  have h2 := wsub x.b 4503599627370494 y.b hy.2.1
  have h3 := wsub x.c 4503599627370494 y.c hy.2.2.1
  have h4 := wsub x.d 4503599627370494 y.d hy.2.2.2.1
  have h5 := wsub x.e 4503599627370494 y.e hy.2.2.2.2
  simp only [Int.cast_ofNat_Int] at h1 h2 h3 h4 h5
  rw [h1, h2, h3, h4, h5]
  rfl
set_option maxRecDepth 100000 in
set_option maxHeartbeats 1000000 in
theorem Minus_any (x y : E5) (hy : y.ok) (w : World) : Calls Tryz.prog 227 #[.agg x.cs, .agg y.cs] w (ERet (minusE x y) w) := by
  rw [minusE_pre]
  obtain ⟨Y, hY⟩ : ∃ Y, Y = carrE (preM x y) := ⟨_, rfl⟩
  have HY := Lib.hid hY
  rw [← hY]
  clear hY
  have F0 := Lib.hid (BK.start w)
  have Hy := Lib.hid hy
  clear hy
  go_enter Tryz.func227, Tryz.ntmps227
  go_wp2_with (first
    | (have hx_ := F0; refine s_box hx_.out rfl rfl rfl rfl ?_; clear F0 hx_; intro w1 b1 h1 _; have F1 := Lib.hid h1; clear h1)
    | (have hx_ := F1; refine s_box hx_.out rfl rfl rfl rfl ?_; clear F1 hx_; intro w2 b2 h1 _; have F2 := Lib.hid h1; clear h1)
    | (have hx_ := F2; refine s_alloc hx_.out rfl rfl zeroE rfl ?_; clear F2 hx_; intro w3 b3 h1 _; obtain ⟨e0, e1, e2, e3, e4⟩ := h1.e5 2 rfl; obtain ⟨g0, g1, g2, g3, g4⟩ := h1.e5 1 rfl; have F3 := Lib.hid h1; clear h1)
    | (go_at_call 236; rw [minus_eq Hy.out]; refine (carried_any (preM x y) (preM_ok x y) _).mono ?_; rw [← HY.out]; rintro e w4 ⟨rfl, hb⟩; have F4 := Lib.hid (F3.out.later hb); clear hb F3 e0 e1 e2 e3 e4 g0 g1 g2 g3 g4)
    | (have hx_ := F4; refine s_store hx_.out rfl rfl 0 rfl rfl Y.cs rfl rfl (by kernel_rfl) (E5.cells _) ?_; clear F4 hx_; intro w5 h1; have F5 := Lib.hid h1; clear h1))
  exact bodyPost_ret (v := .agg Y.cs) (by simp [results, Tryz.results227, asAddr]; exact ret5 (F5.out.mem (i := 0) rfl)) rfl ⟨rfl, F5.out.below⟩
/-- The first k limbs added. -/
def sumK (x y : E5) (k : Nat) : E5 := ⟨if 0 < k then (x.a + y.a) % 18446744073709551616 else x.a, if 1 < k then (x.b + y.b) % 18446744073709551616 else x.b, if 2 < k then (x.c + y.c) % 18446744073709551616 else x.c, if 3 < k then (x.d + y.d) % 18446744073709551616 else x.d, if 4 < k then (x.e + y.e) % 18446744073709551616 else x.e⟩
def E5.wd (x : E5) : Nat → Nat
  | 0 => x.a
  | 1 => x.b
  | 2 => x.c
  | 3 => x.d
  | _ => x.e
theorem E5.at_ (x : E5) {k : Nat} (hk : k < 5) : x.cs[k]? = some (.int .u64 (x.wd k : Int)) := by
  obtain rfl | rfl | rfl | rfl | rfl : k = 0 ∨ k = 1 ∨ k = 2 ∨ k = 3 ∨ k = 4 := by omega
  all_goals rfl
theorem sumK_at (x y : E5) {k : Nat} (hk : k < 5) : (sumK x y k).wd k = x.wd k := by
  obtain rfl | rfl | rfl | rfl | rfl : k = 0 ∨ k = 1 ∨ k = 2 ∨ k = 3 ∨ k = 4 := by omega
  all_goals rfl
theorem sumK_set (x y : E5) {k : Nat} (hk : k < 5) : (sumK x y k).cs.setIfInBounds k (.int .u64 (IntKind.u64.wrap ((x.wd k : Int) + (y.wd k : Int)))) = (sumK x y (k + 1)).cs := by
  rw [wadd]
  obtain rfl | rfl | rfl | rfl | rfl : k = 0 ∨ k = 1 ∨ k = 2 ∨ k = 3 ∨ k = 4 := by omega
  all_goals rfl
theorem sumK_ok {x y : E5} : (sumK x y 5).ok := ⟨Nat.mod_lt _ (by decide), Nat.mod_lt _ (by decide), Nat.mod_lt _ (by decide), Nat.mod_lt _ (by decide), Nat.mod_lt _ (by decide)⟩
theorem BK.drew {w0 w : World} {bs : List (Nat × Array Value × TypeId)} (h : BK w0 w bs) : BK w0 w.drew bs := h.later ⟨rfl, rfl, rfl, Nat.le_refl _, fun _ _ => rfl⟩
set_option maxRecDepth 100000 in
set_option maxHeartbeats 1000000 in
theorem Plus_any (x y : E5) (w : World) : Calls Tryz.prog 229 #[.agg x.cs, .agg y.cs] w (ERet (plusE x y) w) := by
  have F0 := Lib.hid (BK.start w)
  go_enter Tryz.func229, Tryz.ntmps229
  go_wp2_with (first
    | (have hx_ := F0; refine s_box hx_.out rfl rfl rfl rfl ?_; clear F0 hx_; intro w1 b1 h1 _; have F1 := Lib.hid h1; clear h1)
    | (have hx_ := F1; refine s_box hx_.out rfl rfl rfl rfl ?_; clear F1 hx_; intro w2 b2 h1 _; have F2 := Lib.hid h1; clear h1)
    | (have hx_ := F2; refine s_alloc hx_.out rfl rfl zeroE rfl ?_; clear F2 hx_; intro w3 b3 h1 _; have F3 := Lib.hid h1; clear h1))
  go_loopw [6] (fun i wr => ∃ k : Nat, k ≤ 5 ∧ i = .int .i64 (k : Int) ∧ Hid (BK w wr [(b3, nilE.cs, 260), (b2, y.cs, 260), (b1, (sumK x y k).cs, 260)])) (fun i _ => 5 - (intOf i).toNat)
  case atStart => exact ⟨0, Nat.zero_le _, rfl, F3.out⟩
  case round =>
    obtain ⟨k, hk, rfl, hF⟩ := hrel
    clear F3
    by_cases hlt : k < 5
    · have hlt' : (k : Int) < 5 := by omega
      have hk0 : (0 : Int) ≤ (k : Int) := by omega
      have cx := hF.out.cell 2 rfl k
      have cy := hF.out.cell 1 rfl k
      rw [E5.at_ _ hlt] at cx cy
      rw [sumK_at x y hlt] at cx
      have HL := Lib.hid hlt
      clear hlt hk
      go_wp2
      refine wp_quiet_tail 8 (by kernel_rfl) (by kernel_rfl) ?_
      simp only [List.take_succ_cons, List.take_zero, List.drop_succ_cons, List.drop_zero]
      repeat (go_big_quiet_step (fail))
      refine wpQuiet_nil ?_
      go_wp2_with (refine s_set64 hF.out.drew rfl rfl 2 rfl k HL.out rfl _ rfl ?_; intro w5 h5; simp only [List.set_cons_succ, List.set_cons_zero] at h5; rw [sumK_set x y HL.out] at h5; have F5 := Lib.hid h5; clear h5 hF cx cy)
      go_roundw
      case rel => exact ⟨k + 1, HL.out, by go_num, F5.out⟩
      case measure => simp [intOf]; have := HL.out; omega
    · obtain rfl : k = 5 := by omega
      go_wp2_with (first
        | (refine s_load hF.out rfl rfl 2 rfl 0 rfl (sumK x y 5).cs (fun j _ => by rw [Nat.zero_add, Array.getElem?_toList]) Tryz.underlying260 rfl (by kernel_rfl) ?_)
        | (go_at_call 236; refine (carried_any (sumK x y 5) sumK_ok _).mono ?_; rintro e w4 ⟨rfl, hb⟩; have F4 := Lib.hid (hF.out.later hb); clear hb hF)
        | (have hx_ := F4; refine s_store hx_.out rfl rfl 0 rfl rfl (carrE (sumK x y 5)).cs rfl rfl (by kernel_rfl) (E5.cells _) ?_; clear F4 hx_; intro w5 h1; have F5 := Lib.hid h1; clear h1))
      exact bodyPost_ret (v := .agg (plusE x y).cs) (by simp [results, Tryz.results229, asAddr]; exact ret5 (F5.out.mem (i := 0) rfl)) rfl ⟨rfl, F5.out.below⟩
end Go.Proofs.YtbcpmnnlhdgbhaaGreatDoor

namespace Go.Proofs.YtbcpmnnlhdgbhaaGreatDoor
open Go.RowKit
/-- The worlds that w0 has grown to, among those of a kind that stays. -/
structure FS (w0 : World) (F : World → Prop) where
  val : World
  below : Below w0.heap.size w0 val
  kind : F val
def Stays (F : World → Prop) : Prop := ∀ w w', F w → Below w.heap.size w w' → F w'
section
variable {P : Program} {ops : Array Oper} {w0 : World}
theorem quiet_keeps {C : World → Prop} {Af : Act} {d : Nat} : ∀ (r : List Oper) (a : Act), (∀ o ∈ r, o.dst ≠ some d) → wpQuiet P ops C (fun a' => a' = Af) r a → a.tmps[d]? = Af.tmps[d]?
  | [], a, _, h => by
    have h1 : a = Af := h
    rw [h1]
  | o :: r, a, hd, h => by
    unfold wpQuiet at h
    split at h
    · obtain ⟨v, _, h2⟩ := h
      rw [← quiet_keeps r _ (fun o' ho => hd o' (List.mem_cons_of_mem _ ho)) h2, put_tmps_ne (hd o List.mem_cons_self)]
    · rw [← quiet_keeps r _ (fun o' ho => hd o' (List.mem_cons_of_mem _ ho)) h, put_tmps_ne (hd o List.mem_cons_self)]
theorem funWalk_of_quiet {Af : Act} : ∀ (l : List Oper) (a : Act), (∀ o ∈ l, o.guard = none ∧ ∃ d, o.dst = some d ∧ d < a.tmps.size) → (l.map (·.dst)).Nodup →
    (∀ F, Stays F → Nonempty (FS w0 F) → wpQuiet P ops (fun w' => ∃ n : FS w0 F, w' = n.val) (fun a' => a' = Af) l a) → funWalk P w0 (fun a' => a' = Af) l a
  | [], a, _, _, h => h (fun _ => True) (fun _ _ _ _ => trivial) ⟨⟨w0, Below.refl _ _, trivial⟩⟩
  | o :: r, a, hg, hnd, h => by
    rw [List.map_cons, List.nodup_cons] at hnd
    obtain ⟨hg0, d, hd, hds⟩ := hg o List.mem_cons_self
    have hw : ∀ y, Region.wanted o y = true := fun y => by unfold Region.wanted; rw [hg0]
    have hr : ∀ o' ∈ r, o'.dst ≠ some d := fun o' ho e => hnd.1 (List.mem_map.2 ⟨o', ho, e.trans hd.symm⟩)
    have hv : ∀ F, Stays F → Nonempty (FS w0 F) → (∀ w, (∃ n : FS w0 F, w = n.val) → o.quietAt P a (fun w' => ∃ n : FS w0 F, w' = n.val) w (Af.tmps.getD d undef)) ∧ wpQuiet P ops (fun w' => ∃ n : FS w0 F, w' = n.val) (fun a' => a' = Af) r (a.put o.dst (Af.tmps.getD d undef)) := fun F hF hN => by
      have h1 := h F hF hN
      unfold wpQuiet at h1
      rw [if_pos (hw _)] at h1
      obtain ⟨v, h2, h3⟩ := h1
      have h4 := quiet_keeps r _ hr h3
      rw [hd] at h4
      simp only [Act.put] at h4
      rw [Array.getElem?_setIfInBounds_self_of_lt hds] at h4
      have h5 : Af.tmps.getD d undef = v := by rw [Array.getD_eq_getD_getElem?, ← h4]; rfl
      rw [h5]
      exact ⟨h2, h3⟩
    refine ⟨Af.tmps.getD d undef, fun w hb => ?_, ?_⟩
    · have h1 := (hv (fun w'' => Below w.heap.size w w'') (fun w1 w2 h1 h2 => h1.trans (h2.mono h1.size)) ⟨⟨w, hb, Below.refl _ _⟩⟩).1 w ⟨⟨w, hb, Below.refl _ _⟩, rfl⟩
      unfold Oper.quietAt at h1
      unfold okOp
      generalize (execOp a.eval o).run P w = rr at *
      cases rr with
      | ok n w' =>
        cases n <;> simp only [Oper.quietUpon] at h1 <;> simp only [okUpon]
        case value u => obtain ⟨e1, e2⟩ := h1; subst e1; exact ⟨e2, Below.refl _ _⟩
        case skip => obtain ⟨e1, e2⟩ := h1; subst e1; exact ⟨e2.symm, Below.refl _ _⟩
        case enter f args =>
          obtain ⟨e1, hc⟩ := h1
          subst e1
          exact hc.mono fun e w'' ⟨he, n, hn⟩ => ⟨_, he, rfl, by rw [hn]; exact n.kind⟩
      | halt x w' => simp only [Oper.quietUpon] at h1
    · refine funWalk_of_quiet r _ (fun o' ho => ?_) hnd.2 fun F hF hN => (hv F hF hN).2
      rw [put_size]
      exact hg o' (List.mem_cons_of_mem _ ho)
theorem funWalk_mono {K K' : Act → Prop} (hk : ∀ a, K a → K' a) : ∀ (l : List Oper) (a : Act), funWalk P w0 K l a → funWalk P w0 K' l a
  | [], _, h => hk _ h
  | _ :: r, _, ⟨v, h1, h2⟩ => ⟨v, h1, funWalk_mono hk r _ h2⟩
/-- A callee's contract, met in a world of the class. -/
theorem fs_call {F : World → Prop} (hF : Stays F) {f : FuncId} {args : Array Value} {n : FS w0 F} {v : Value} (h : Calls P f args n.val fun e w' => e = .returned v ∧ Below n.val.heap.size n.val w') : Calls P f args n.val fun e w'' => e = .returned v ∧ ∃ m : FS w0 F, w'' = m.val :=
  h.mono fun _ w' ⟨he, hb⟩ => ⟨he, ⟨w', n.below.trans (hb.mono n.below.size), hF _ _ n.kind hb⟩, rfl⟩
theorem quiet_load_fs {F : World → Prop} {o : Oper} {a : Act} {K : Act → Prop} (ty : TypeId) (x : Operand) (ho : o.op = .load ty x) (b off : Nat) (hx : a.eval x = .pointer (some ⟨b, off, none⟩)) (cs : Array Value) (d : TypeDesc) (hc : ∀ w, Below w0.heap.size w0 w → w.rangeAt b off cs.toList)
    (hu : P.underlying ty = some d) (hd : d.isRow = true) (hi : (P.info? ty).map (·.size) = some cs.size) (hk : K (a.put o.dst (.agg cs))) : o.quiet P a (fun w' => ∃ n : FS w0 F, w' = n.val) K := by
  refine ⟨.agg cs, fun w hw => ?_, hk⟩
  obtain ⟨n, rfl⟩ := hw
  unfold Oper.quietAt execOp
  simp only [ho, hx, Instr.loadAt, Instr.sureAddr, Sem.run_bind, Sem.run_pure, Result.andThen_ok, run_loadVar_mid n.val b off ty cs.toList d (hc _ n.below) hu hd (by rw [Array.length_toList]; exact hi), Array.toArray_toList]
  exact ⟨rfl, rfl⟩
/-- The new blocks are those that are told. -/
def allocB (l : List Oper) (nv : Nat) (al : List (Nat × Array Value × TypeId)) : Bool := (List.range al.length).all fun i => match al[i]?, l[nv + i]? with | some x, some o => (match o.op with | .alloc t => t == x.2.2 | _ => false) | _, _ => true
theorem allocs_ok {l : List Oper} {nv : Nat} {al : List (Nat × Array Value × TypeId)} (hB : allocB l nv al = true) (hz : ∀ x ∈ al, ∀ w, (zeroValue x.2.2).run P w = .ok (.agg x.2.1) w) : ∀ i x o, al[i]? = some x → l[nv + i]? = some o → ∀ a w, okOp P o a w (fun u w' => u = .pointer (some ⟨w.heap.size, 0, none⟩) ∧ w' = w.alloc (.cells x.2.1 x.2.2)) := fun i x o hx ho a w => by
  have h1 := List.all_eq_true.1 hB i (List.mem_range.2 (List.getElem?_eq_some_iff.1 hx).1)
  rw [hx, ho] at h1
  simp only at h1
  split at h1
  · rename_i t he
    have : t = x.2.2 := by simpa using h1
    subst this
    exact alloc_ok he (hz x (List.mem_of_getElem? hx)) a w
  · cases h1
theorem wp_region_walk {id : Nat} {Q : Exit → Act → World → Prop} {a : Act} {w : World} {l : List Oper} (nv : Nat) (al : List (Nat × Array Value × TypeId)) (hm : P.follows .mixedOrders = true)
    (hB : funB l nv al.length (al.map (·.1)) a.tmps.size = true)
    (hA : ∀ i x o, al[i]? = some x → l[nv + i]? = some o → ∀ a w, okOp P o a w (fun u w' => u = .pointer (some ⟨w.heap.size, 0, none⟩) ∧ w' = w.alloc (.cells x.2.1 x.2.2)))
    (Af : Act) (h : ∀ F, Stays F → Nonempty (FS w F) → wpQuiet P l.toArray (fun w' => ∃ n : FS w F, w' = n.val) (fun a' => a' = Af) (l.take nv) a)
    (hK : ∀ w', Below w.heap.size w w' → freshQ w w' (fun a'' => wpList P l.toArray Q (l.drop (nv + al.length)) a'' w') al [] Af) : (Code.region id l.toArray true).wp P Q a w := by
  refine wp_region_fun nv al hm hB hA (funWalk_mono (K := fun a' => a' = Af) (fun a' (e : a' = Af) => by rw [e]; exact hK) _ _ ?_)
  simp only [funB, Bool.and_eq_true, decide_eq_true_eq] at hB
  obtain ⟨⟨⟨⟨⟨⟨⟨⟨⟨_, _⟩, _⟩, _⟩, hdst⟩, hnd⟩, _⟩, _⟩, _⟩, _⟩ := hB
  have e1 : l.take nv = (l.take (nv + al.length)).take nv := by rw [List.take_take, Nat.min_eq_left (by omega)]
  refine funWalk_of_quiet (ops := l.toArray) _ _ (fun o ho => ?_) ?_ h
  · rw [e1] at ho
    have h1 := List.all_eq_true.1 hdst o (List.mem_of_mem_take ho)
    rw [Bool.and_eq_true] at h1
    cases hd : o.dst with
    | none => rw [hd] at h1; cases h1.2
    | some d => rw [hd] at h1; exact ⟨by simpa using h1.1, d, rfl, by simpa using h1.2⟩
  · rw [e1, List.map_take]
    exact hnd.sublist (List.take_sublist _ _)
end
end Go.Proofs.YtbcpmnnlhdgbhaaGreatDoor

namespace Go.Proofs.YtbcpmnnlhdgbhaaGreatDoor
open Go.RowKit Go.Lib
theorem n19_lt (u : Nat) : n19 u < 18446744073709551616 := Nat.mod_lt _ (by decide)
def E5.g (y : E5) : E5 := ⟨0, n19 y.b, n19 y.c, n19 y.d, n19 y.e⟩
theorem g_ok (y : E5) : y.g.ok := ⟨by show 0 < _; decide, n19_lt _, n19_lt _, n19_lt _, n19_lt _⟩
/-- Five sums of products. -/
def W5 (r0 r1 r2 r3 r4 : Nat) : Array Value := wcs r0 ++ wcs r1 ++ wcs r2 ++ wcs r3 ++ wcs r4
theorem zeroW5 : ∀ w, (zeroValue 348).run Tryz.prog w = .ok (.agg (W5 0 0 0 0 0)) w := fun w => by kernel_rfl
theorem g_eq (y : E5) : Value.agg (((((nilE.cs.setIfInBounds 0 (.int .u64 0)).setIfInBounds 1 (.int .u64 (IntKind.u64.wrap (19 * (y.b : Int))))).setIfInBounds 2 (.int .u64 (IntKind.u64.wrap (19 * (y.c : Int))))).setIfInBounds 3 (.int .u64 (IntKind.u64.wrap (19 * (y.d : Int))))).setIfInBounds 4 (.int .u64 (IntKind.u64.wrap (19 * (y.e : Int))))) = .agg y.g.cs := by
  rw [wmul, wmul, wmul, wmul]
  rfl
def pr0 (x y : E5) : Nat := addW (addW (addW (addW (addW 0 x.a y.a) x.b y.g.e) x.c y.g.d) x.d y.g.c) x.e y.g.b
def pr1 (x y : E5) : Nat := addW (addW (addW (addW (addW 0 x.a y.b) x.b y.a) x.c y.g.e) x.d y.g.d) x.e y.g.c
def pr2 (x y : E5) : Nat := addW (addW (addW (addW (addW 0 x.a y.c) x.b y.b) x.c y.a) x.d y.g.e) x.e y.g.d
def pr3 (x y : E5) : Nat := addW (addW (addW (addW (addW 0 x.a y.d) x.b y.c) x.c y.b) x.d y.a) x.e y.g.e
def pr4 (x y : E5) : Nat := addW (addW (addW (addW (addW 0 x.a y.e) x.b y.d) x.c y.c) x.d y.b) x.e y.a
def preT (x y : E5) : E5 := ⟨(pr0 x y % 18446744073709551616 % 2251799813685248 + 19 * shW (pr4 x y) % 18446744073709551616) % 18446744073709551616, (pr1 x y % 18446744073709551616 % 2251799813685248 + shW (pr0 x y)) % 18446744073709551616, (pr2 x y % 18446744073709551616 % 2251799813685248 + shW (pr1 x y)) % 18446744073709551616, (pr3 x y % 18446744073709551616 % 2251799813685248 + shW (pr2 x y)) % 18446744073709551616, (pr4 x y % 18446744073709551616 % 2251799813685248 + shW (pr3 x y)) % 18446744073709551616⟩
theorem preT_ok (x y : E5) : (preT x y).ok := ⟨Nat.mod_lt _ (by decide), Nat.mod_lt _ (by decide), Nat.mod_lt _ (by decide), Nat.mod_lt _ (by decide), Nat.mod_lt _ (by decide)⟩
theorem timesE_pre (x y : E5) : timesE x y = carrE (preT x y) := by
  have h1 : ∀ n : Nat, n % 18446744073709551616 % 2251799813685248 = n % 2251799813685248 := fun n => by omega
  have h2 : ∀ m n : Nat, (m + 19 * n % 18446744073709551616) % 18446744073709551616 = (m + 19 * n) % 18446744073709551616 := fun m n => by omega
  unfold preT
  rw [h1, h1, h1, h1, h1, h2]
  rfl
theorem built_W5 (r0 r1 r2 r3 r4 : Nat) : Tryz.prog.built 348 [(0, .agg (wcs r0)), (1, .agg (wcs r1)), (2, .agg (wcs r2)), (3, .agg (wcs r3)), (4, .agg (wcs r4))] = some (W5 r0 r1 r2 r3 r4) := by kernel_rfl
theorem quiet_build5 {o : Oper} {a : Act} {C : World → Prop} {K : Act → Prop} {x0 x1 x2 x3 x4 : Operand} (ho : o.op = .build 348 #[(0, x0), (1, x1), (2, x2), (3, x3), (4, x4)]) (r0 r1 r2 r3 r4 : Nat) (h0 : a.eval x0 = .agg (wcs r0)) (h1 : a.eval x1 = .agg (wcs r1)) (h2 : a.eval x2 = .agg (wcs r2)) (h3 : a.eval x3 = .agg (wcs r3)) (h4 : a.eval x4 = .agg (wcs r4))
    (hk : K (a.put o.dst (.agg (W5 r0 r1 r2 r3 r4)))) : o.quiet Tryz.prog a C K := by
  refine ⟨_, fun w _ => ?_, hk⟩
  have e : (#[(0, x0), (1, x1), (2, x2), (3, x3), (4, x4)].map fun (i, x) => (i, a.eval x)) = #[(0, .agg (wcs r0)), (1, .agg (wcs r1)), (2, .agg (wcs r2)), (3, .agg (wcs r3)), (4, .agg (wcs r4))] := by simp [h0, h1, h2, h3, h4]
  unfold Oper.quietAt execOp
  simp only [ho, e, run_build w _ _ _ (built_W5 r0 r1 r2 r3 r4), Sem.run_bind, Sem.run_pure, Result.andThen_ok]
  exact ⟨rfl, rfl⟩
theorem W5_size (r0 r1 r2 r3 r4 : Nat) : (W5 r0 r1 r2 r3 r4).size = 10 := by kernel_rfl
theorem W5_cells (r0 r1 r2 r3 r4 : Nat) : ((W5 r0 r1 r2 r3 r4).all fun v => v.oneCell') = true := by kernel_rfl
theorem preT_eq (x y : E5) : (#[Value.agg #[.int .u64 (IntKind.u64.wrap (bits BinOp.and IntKind.u64 ((pr0 x y : Int) % 18446744073709551616) 2251799813685247 + IntKind.u64.wrap (19 * (shW (pr4 x y) : Int)))), .int .u64 (IntKind.u64.wrap (bits BinOp.and IntKind.u64 ((pr1 x y : Int) % 18446744073709551616) 2251799813685247 + (shW (pr0 x y) : Int))), .int .u64 (IntKind.u64.wrap (bits BinOp.and IntKind.u64 ((pr2 x y : Int) % 18446744073709551616) 2251799813685247 + (shW (pr1 x y) : Int))), .int .u64 (IntKind.u64.wrap (bits BinOp.and IntKind.u64 ((pr3 x y : Int) % 18446744073709551616) 2251799813685247 + (shW (pr2 x y) : Int))), .int .u64 (IntKind.u64.wrap (bits BinOp.and IntKind.u64 ((pr4 x y : Int) % 18446744073709551616) 2251799813685247 + (shW (pr3 x y) : Int)))]] : Array Value) = #[.agg (preT x y).cs] := by
  have h : ∀ n : Nat, bits BinOp.and IntKind.u64 ((n : Int) % 18446744073709551616) 2251799813685247 = ((n % 18446744073709551616 % 2251799813685248 : Nat) : Int) := fun n => by
    rw [show (n : Int) % 18446744073709551616 = ((n % 18446744073709551616 : Nat) : Int) from by omega]
    exact and51 (Nat.mod_lt _ (by decide))
  rw [h, h, h, h, h, wmul, wadd, wadd, wadd, wadd, wadd]
  rfl
theorem W5_part {w0 w : World} {bs : List (Nat × Array Value × TypeId)} (h : BK w0 w bs) (i : Nat) {b : Nat} {t : TypeId} (r : Nat → Nat) (hi : bs[i]? = some (b, W5 (r 0) (r 1) (r 2) (r 3) (r 4), t)) (j : Nat) (hj : j < 5) : w.rangeAt b (2 * j) (wcs (r j)).toList ∧ w.cell? ⟨b, 2 * j + 1, none⟩ = some (.int .u64 ((r j % 18446744073709551616 : Nat) : Int)) := by
  have key : (W5 (r 0) (r 1) (r 2) (r 3) (r 4))[2 * j]? = some (.int .u64 ((r j / 18446744073709551616 : Nat) : Int)) ∧ (W5 (r 0) (r 1) (r 2) (r 3) (r 4))[2 * j + 1]? = some (.int .u64 ((r j % 18446744073709551616 : Nat) : Int)) := by
    obtain rfl | rfl | rfl | rfl | rfl : j = 0 ∨ j = 1 ∨ j = 2 ∨ j = 3 ∨ j = 4 := by omega
    · exact ⟨by kernel_rfl, by kernel_rfl⟩
    · exact ⟨by kernel_rfl, by kernel_rfl⟩
    · exact ⟨by kernel_rfl, by kernel_rfl⟩
    · exact ⟨by kernel_rfl, by kernel_rfl⟩
    · exact ⟨by kernel_rfl, by kernel_rfl⟩
  refine ⟨rangeAt_part (h.mem hi) _ _ fun k hk => ?_, (h.cell i hi _).trans key.2⟩
  have hk2 : k < 2 := hk
  obtain rfl | rfl : k = 0 ∨ k = 1 := by omega
  · exact key.1
  · exact key.2
set_option maxRecDepth 100000 in
set_option maxHeartbeats 4000000 in
theorem Times_any (x y : E5) (hx : x.ok) (hy : y.ok) (w : World) : Calls Tryz.prog 199 #[.agg x.cs, .agg y.cs] w (ERet (timesE x y) w) := by
  have HX := Lib.hid hx
  have HY := Lib.hid hy
  have HG := Lib.hid (g_ok y)
  obtain ⟨Y, hY⟩ : ∃ Y, Y = timesE x y := ⟨_, rfl⟩
  have HYY := Lib.hid hY
  rw [← hY]
  rw [timesE_pre] at HYY
  clear hY hx hy
  have F0 := Lib.hid (BK.start w)
  go_enter Tryz.func199, Tryz.ntmps199
  go_wp2_with (first
    | (have hx_ := F0; refine s_box hx_.out rfl rfl rfl rfl ?_; clear F0 hx_; intro w1 b1 h1 _; have F1 := Lib.hid h1; clear h1)
    | (have hx_ := F1; refine s_box hx_.out rfl rfl rfl rfl ?_; clear F1 hx_; intro w2 b2 h1 _; have F2 := Lib.hid h1; clear h1)
    | (have hx_ := F2; refine s_alloc hx_.out rfl rfl zeroE rfl ?_; clear F2 hx_; intro w3 b3 h1 _; obtain ⟨g0, g1, g2, g3, g4⟩ := h1.e5 1 rfl; have hz := zeroA5; have F3 := Lib.hid h1; clear h1)
    | (have hx_ := F3; refine s_alloc hx_.out rfl rfl zeroA5 rfl ?_; clear F3 hx_ g0 g1 g2 g3 g4 hz; intro w4 b4 h1 _; have F4 := Lib.hid h1; clear h1)
    | (have hx_ := F4; refine s_store hx_.out rfl rfl 0 rfl rfl y.g.cs (g_eq y) rfl (by kernel_rfl) (E5.cells _) ?_; clear F4 hx_; intro w5 h1; have F5 := Lib.hid h1; clear h1))
  refine wp_region_walk 131 [(6, W5 0 0 0 0 0, 348)] (by kernel_rfl) (by kernel_rfl) (allocs_ok (by kernel_rfl) (fun x hx => by rw [List.mem_singleton.1 hx]; exact zeroW5)) ?Af ?h ?hK
  case h =>
    intro F hF hN
    have hz := zeroW
    have K := fun n : FS w5 F => F5.out.later n.below
    have x0 := fun n : FS w5 F => ((K n).e5 3 rfl).1
    have x1 := fun n : FS w5 F => ((K n).e5 3 rfl).2.1
    have x2 := fun n : FS w5 F => ((K n).e5 3 rfl).2.2.1
    have x3 := fun n : FS w5 F => ((K n).e5 3 rfl).2.2.2.1
    have x4 := fun n : FS w5 F => ((K n).e5 3 rfl).2.2.2.2
    have y0 := fun n : FS w5 F => ((K n).e5 2 rfl).1
    have y1 := fun n : FS w5 F => ((K n).e5 2 rfl).2.1
    have y2 := fun n : FS w5 F => ((K n).e5 2 rfl).2.2.1
    have y3 := fun n : FS w5 F => ((K n).e5 2 rfl).2.2.2.1
    have y4 := fun n : FS w5 F => ((K n).e5 2 rfl).2.2.2.2
    have g1 := fun n : FS w5 F => ((K n).e5 0 rfl).2.1
    have g2 := fun n : FS w5 F => ((K n).e5 0 rfl).2.2.1
    have g3 := fun n : FS w5 F => ((K n).e5 0 rfl).2.2.2.1
    have g4 := fun n : FS w5 F => ((K n).e5 0 rfl).2.2.2.2
    clear K
    simp only [Act.put, List.setIfInBounds_toArray, List.set_cons_succ, List.set_cons_zero, List.append_eq, List.cons_append, List.nil_append, List.take_succ_cons, List.take_zero]
    obtain ⟨lx0, lx1, lx2, lx3, lx4⟩ := HX.out
    obtain ⟨ly0, ly1, ly2, ly3, ly4⟩ := HY.out
    obtain ⟨_, lg1, lg2, lg3, lg4⟩ := HG.out
    iterate 130 (go_big_quiet_step (exact fs_call hF (wadd_any _ _ _ (by with_reducible assumption) (by with_reducible assumption) _)))
    go_big_quiet_want
    refine quiet_build5 rfl (pr0 x y) (pr1 x y) (pr2 x y) (pr3 x y) (pr4 x y) rfl rfl rfl rfl rfl ?_
    go_big_quiet_on
    refine wpQuiet_nil ?_
    exact rfl
  case hK =>
    intro w6 hb6 b6 hB6 _ hr6
    have F6 := Lib.hid (F5.out.found hb6 hB6 hr6)
    clear F5 hr6
    simp only [freshQ, Act.put, List.setIfInBounds_toArray, List.set_cons_succ, List.set_cons_zero, List.append_eq, List.cons_append, List.nil_append, List.drop_succ_cons, List.drop_zero, List.length_cons, List.length_nil, Nat.reduceAdd]
    go_wp2_with (have hx_ := F6; refine s_store hx_.out rfl rfl 0 rfl rfl (W5 (pr0 x y) (pr1 x y) (pr2 x y) (pr3 x y) (pr4 x y)) rfl (by rw [W5_size, W5_size]) (by rw [W5_size]; kernel_rfl) (W5_cells _ _ _ _ _) ?_; clear F6 hx_; intro w7 h1; have F7 := Lib.hid h1; clear h1)
    have hcar : ∀ w, Calls Tryz.prog 236 #[.agg (preT x y).cs] w (fun e w' => e = .returned (.agg Y.cs) ∧ Below w.heap.size w w') := fun w => by rw [HYY.out]; exact carried_any (preT x y) (preT_ok x y) w
    have hT := preT_eq x y
    obtain ⟨q0, hq0⟩ : ∃ q, pr0 x y = q := ⟨_, rfl⟩
    obtain ⟨q1, hq1⟩ : ∃ q, pr1 x y = q := ⟨_, rfl⟩
    obtain ⟨q2, hq2⟩ : ∃ q, pr2 x y = q := ⟨_, rfl⟩
    obtain ⟨q3, hq3⟩ : ∃ q, pr3 x y = q := ⟨_, rfl⟩
    obtain ⟨q4, hq4⟩ : ∃ q, pr4 x y = q := ⟨_, rfl⟩
    rw [hq0, hq1, hq2, hq3, hq4] at hT F7
    clear hq0 hq1 hq2 hq3 hq4
    refine wp_region_walk 43 [] (by kernel_rfl) (by kernel_rfl) (allocs_ok (by kernel_rfl) (fun x hx => (List.not_mem_nil hx).elim)) ?Af2 ?h2 ?hK2
    case h2 =>
      intro F hF hN
      have P := fun (w' : World) (hb : Below w7.heap.size w7 w') => W5_part (F7.out.later hb) 0 (fun j => match j with | 0 => q0 | 1 => q1 | 2 => q2 | 3 => q3 | _ => q4) rfl
      have l0 := fun n : FS w7 F => (P n.val n.below 0 (by decide)).2
      have l1 := fun n : FS w7 F => (P n.val n.below 1 (by decide)).2
      have l2 := fun n : FS w7 F => (P n.val n.below 2 (by decide)).2
      have l3 := fun n : FS w7 F => (P n.val n.below 3 (by decide)).2
      have l4 := fun n : FS w7 F => (P n.val n.below 4 (by decide)).2
      simp only [Nat.reduceMul, Nat.reduceAdd] at l0 l1 l2 l3 l4
      have hP := Lib.hid P
      clear P
      simp only [List.take_succ_cons, List.take_zero]
      iterate 43 (first
        | (go_big_quiet_want; refine quiet_load_fs 346 _ rfl b6 0 rfl (wcs q0) _ (fun w' hb => (hP.out w' hb 0 (by decide)).1) Tryz.underlying346 rfl (by kernel_rfl) ?_; go_big_quiet_on; simp only [Act.put, List.setIfInBounds_toArray, List.set_cons_succ, List.set_cons_zero])
        | (go_big_quiet_want; refine quiet_load_fs 346 _ rfl b6 2 rfl (wcs q1) _ (fun w' hb => (hP.out w' hb 1 (by decide)).1) Tryz.underlying346 rfl (by kernel_rfl) ?_; go_big_quiet_on; simp only [Act.put, List.setIfInBounds_toArray, List.set_cons_succ, List.set_cons_zero])
        | (go_big_quiet_want; refine quiet_load_fs 346 _ rfl b6 4 rfl (wcs q2) _ (fun w' hb => (hP.out w' hb 2 (by decide)).1) Tryz.underlying346 rfl (by kernel_rfl) ?_; go_big_quiet_on; simp only [Act.put, List.setIfInBounds_toArray, List.set_cons_succ, List.set_cons_zero])
        | (go_big_quiet_want; refine quiet_load_fs 346 _ rfl b6 6 rfl (wcs q3) _ (fun w' hb => (hP.out w' hb 3 (by decide)).1) Tryz.underlying346 rfl (by kernel_rfl) ?_; go_big_quiet_on; simp only [Act.put, List.setIfInBounds_toArray, List.set_cons_succ, List.set_cons_zero])
        | (go_big_quiet_want; refine quiet_load_fs 346 _ rfl b6 8 rfl (wcs q4) _ (fun w' hb => (hP.out w' hb 4 (by decide)).1) Tryz.underlying346 rfl (by kernel_rfl) ?_; go_big_quiet_on; simp only [Act.put, List.setIfInBounds_toArray, List.set_cons_succ, List.set_cons_zero])
        | go_big_quiet_step (first | exact fs_call hF (hcar _) | exact fs_call hF (shifted_any _ _)))
      refine wpQuiet_nil ?_
      exact rfl
    case hK2 =>
      intro w8 hb8
      have F8 := Lib.hid (F7.out.later hb8)
      clear hb8
      simp only [freshQ, List.drop_succ_cons, List.drop_zero, List.length_nil, Nat.reduceAdd]
      go_wp2_with (have hx_ := F8; refine s_store hx_.out rfl rfl 2 rfl rfl Y.cs rfl rfl (by kernel_rfl) (E5.cells _) ?_; clear F8 hx_; intro w9 h1; have F9 := Lib.hid h1; clear h1)
      exact bodyPost_ret (v := .agg Y.cs) (by simp [results, Tryz.results199, asAddr]; exact ret5 (F9.out.mem (i := 2) rfl)) rfl ⟨rfl, F9.out.below⟩
end Go.Proofs.YtbcpmnnlhdgbhaaGreatDoor
