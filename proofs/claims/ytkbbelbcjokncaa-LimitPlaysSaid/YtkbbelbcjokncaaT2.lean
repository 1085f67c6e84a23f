/- The walks of bits.Mul64 and of refill. No conditions. -/
import Derived.Test.YtkbbelbcjokncaaT1
import Derived.Shelf.Bits.Mul64
namespace Go.Proofs.Ytkbbelbcjokncaa
open Go.RowKit Go.Lib
set_option maxRecDepth 100000 in
set_option maxHeartbeats 4000000 in
theorem Mul64_any (x y : Nat) (hx : x < 18446744073709551616) (hy : y < 18446744073709551616) (w : World) :
    Calls Try.prog 22 #[.int .u64 (x : Int), .int .u64 (y : Int)] w fun e w' => e = .returned (.tuple #[.int .u64 ((x * y / 18446744073709551616 : Nat) : Int), .int .u64 ((x * y % 18446744073709551616 : Nat) : Int)]) ∧ w' = w := by
  obtain ⟨bd, bt, bw, hhi⟩ := Lib.mul64_hi x y hx hy
  have ba := Lib.half_mul_le (a := x / 4294967296) (b := y / 4294967296) (by omega) (by omega)
  have bb := Lib.half_mul_le (a := x / 4294967296) (b := y % 4294967296) (by omega) (by omega)
  have bc := Lib.half_mul_le (a := x % 4294967296) (b := y / 4294967296) (by omega) (by omega)
  have ba' : x / 4294967296 * (y / 4294967296) < 18446744073709551616 := by omega
  have bb' : x / 4294967296 * (y % 4294967296) < 18446744073709551616 := by omega
  have bc' : x % 4294967296 * (y / 4294967296) < 18446744073709551616 := by omega
  have bh1 : x / 4294967296 * (y / 4294967296) + (x / 4294967296 * (y % 4294967296) + x % 4294967296 * (y % 4294967296) / 4294967296) / 4294967296 < 18446744073709551616 := by omega
  have bh : x / 4294967296 * (y / 4294967296) + (x / 4294967296 * (y % 4294967296) + x % 4294967296 * (y % 4294967296) / 4294967296) / 4294967296 + ((x / 4294967296 * (y % 4294967296) + x % 4294967296 * (y % 4294967296) / 4294967296) % 4294967296 + x % 4294967296 * (y / 4294967296)) / 4294967296 < 18446744073709551616 := by
    rw [hhi]
    have h1 : x * y ≤ 18446744073709551615 * 18446744073709551615 := Nat.mul_le_mul (by omega) (by omega)
    omega
  go_enter Try.func22, Try.ntmps22
  go_wp2
  simp only [Mul64.maskN x hx, Mul64.maskN y hy, Mul64.divN, Mul64.mulN, Mul64.addN, Mul64.wrapN _ bd, Mul64.wrapN _ bb', Mul64.wrapN _ bt, Mul64.maskN _ bt, Mul64.wrapN _ bc', Mul64.wrapN _ bw, Mul64.wrapN _ ba', Mul64.wrapN _ bh1, Mul64.wrapN _ bh, Mul64.wrapM (x * y)]
  rw [hhi]
  go_ret2
  exact ⟨rfl, rfl⟩
/-- A bucket's tokens and moment behind a refill. -/
def refilled (most each : Int) (p : Int × Int) (now : Int) : Int × Int := if now ≤ p.2 then p else (min most (p.1 + each * (now - p.2)), now)
theorem one_set {w : World} {b i : Nat} {cs ds : Array Value} {v : Value} {T : TypeId} (hb : w.heap[b]? = some (.cells cs T (0, 0))) (hd : cs.setIfInBounds i v = ds) (q : Nat) :
    ((w.drewN q).setCell ⟨b, i, none⟩ v).heap[b]? = some (.cells ds T (0, 0)) ∧ w.grownBy ((w.drewN q).setCell ⟨b, i, none⟩ v) (some b) := by
  have hb' : (w.drewN q).heap[b]? = some (.cells cs T (0, 0)) := hb
  refine ⟨hd ▸ heap_setCell_same (w.drewN q) b i cs T v hb', rfl, rfl, rfl, ?_, fun k _ hk => ?_⟩
  · have : ((w.drewN q).setCell ⟨b, i, none⟩ v).heap.size = (w.drewN q).heap.size := by simp
    exact Nat.le_of_eq this.symm
  · exact Below.heap_setCell _ _ _ _ (fun e => hk (by rw [e]))
theorem two_set {w : World} {b : Nat} {u0 u1 v0 v1 : Value} {T : TypeId} (hb : w.heap[b]? = some (.cells #[u0, u1] T (0, 0))) (q q' : Nat) :
    ((((w.drewN q).setCell ⟨b, 1, none⟩ v1).drewN q').setCell ⟨b, 0, none⟩ v0).heap[b]? = some (.cells #[v0, v1] T (0, 0)) ∧ w.grownBy ((((w.drewN q).setCell ⟨b, 1, none⟩ v1).drewN q').setCell ⟨b, 0, none⟩ v0) (some b) := by
  obtain ⟨h1, g1⟩ := one_set (i := 1) (ds := #[u0, v1]) (v := v1) hb (by simp) q
  obtain ⟨h2, g2⟩ := one_set (i := 0) (ds := #[v0, v1]) (v := v0) h1 (by simp) q'
  exact ⟨h2, g2.os.trans g1.os, g2.tape.trans g1.tape, g2.output.trans g1.output, Nat.le_trans g1.size g2.size, fun k hk hne => (g2.block k (Nat.lt_of_lt_of_le hk g1.size) hne).trans (g1.block k hk hne)⟩
set_option maxRecDepth 100000 in
set_option maxHeartbeats 600000 in
theorem refill_any {w : World} {g b : Nat} {most each tok last now : Int} {m : Value} (hg : w.heap[g]? = some (.cells #[.int .i64 most, .int .i64 each, m] 46 (0, 0)))
    (hb : w.heap[b]? = some (.cells #[.int .i64 tok, .int .i64 last] 49 (0, 0))) (hm : most ≤ 2147483648) (he : 0 ≤ each ∧ each ≤ 2147483648) (ht : 0 ≤ tok ∧ tok ≤ most)
    (hl : -9223372036854775808 ≤ last ∧ last ≤ 9223372036854775807) (hn : -9223372036854775808 ≤ now ∧ now ≤ 9223372036854775807) :
    Calls Try.prog 18 #[.pointer (some ⟨g, 0, none⟩), .pointer (some ⟨b, 0, none⟩), .int .i64 now] w
      fun e w' => e = .returned (.tuple #[]) ∧ w'.heap[b]? = some (.cells #[.int .i64 (refilled most each (tok, last) now).1, .int .i64 (refilled most each (tok, last) now).2] 49 (0, 0)) ∧ w.grownBy w' (some b) := by
  have hgb : g ≠ b := fun e => by rw [e, hb] at hg; simp at hg
  have f0 : w.cell? ⟨g, 0, none⟩ = some (.int .i64 most) := by rw [cell_of_row _ g 0 _ _ _ hg]; rfl
  have f1 : w.cell? ⟨g, 1, none⟩ = some (.int .i64 each) := by rw [cell_of_row _ g 1 _ _ _ hg]; rfl
  have c0 : w.cell? ⟨b, 0, none⟩ = some (.int .i64 tok) := by rw [cell_of_row _ b 0 _ _ _ hb]; rfl
  have c1 : w.cell? ⟨b, 1, none⟩ = some (.int .i64 last) := by rw [cell_of_row _ b 1 _ _ _ hb]; rfl
  have hfz : ∀ i, w.frozen? ⟨b, i, none⟩ = false := fun i => by simp [World.frozen?, hb]
  by_cases hle : now ≤ last
  · have Hb := Lib.hid hb
    clear hb hg hgb hm he ht hl hn
    go_enter Try.func18, Try.ntmps18
    go_wp2
    first
      | go_end0
      | (refine bodyPost_ret (results_none rfl _ _ _) rfl ?_)
    exact ⟨rfl, by unfold refilled; rw [if_pos hle]; exact Hb.out, rfl, rfl, rfl, Nat.le_refl _, fun _ _ _ => rfl⟩
  · obtain ⟨x, hx⟩ : ∃ x : Nat, each = (x : Int) := ⟨each.toNat, by omega⟩
    obtain ⟨y, hy⟩ : ∃ y : Nat, now - last = (y : Int) := ⟨(now - last).toNat, by omega⟩
    have hxl : x < 18446744073709551616 := by omega
    have hyl : y < 18446744073709551616 := by omega
    have d1 : decide (now ≤ last) = false := decide_eq_false hle
    subst hx
    have hyw : IntKind.u64.wrap (IntKind.u64.wrap now - IntKind.u64.wrap last) = (y : Int) := by rw [IntKind.wrap_u64, IntKind.wrap_u64, IntKind.wrap_u64]; omega
    obtain ⟨K, hK⟩ : ∃ K, x * y / 18446744073709551616 = K := ⟨_, rfl⟩
    obtain ⟨L, hL⟩ : ∃ L, x * y % 18446744073709551616 = L := ⟨_, rfl⟩
    obtain ⟨R, hR⟩ : ∃ R : Nat, most - tok = (R : Int) := ⟨(most - tok).toNat, by omega⟩
    have hmul := fun w => Mul64_any x y hxl hyl w
    rw [hK, hL] at hmul
    have HRw : Hid (IntKind.u64.wrap (R : Int) = (R : Int)) := by show _ = _; rw [IntKind.wrap_u64]; omega
    have hpr : (x : Int) * (now - last) = ((x * y : Nat) : Int) := by rw [hy, Int.natCast_mul]
    have Hb := Lib.hid hb
    have Hg := Lib.hid hg
    have hb2 : b < w.heap.size := by
      rcases Nat.lt_or_ge b w.heap.size with h' | h'
      · exact h'
      · rw [Array.getElem?_eq_none h'] at hb; cases hb
    have Hmul := Lib.hid hmul
    have Hyw := Lib.hid hyw
    have Hxw : Hid (IntKind.u64.wrap (x : Int) = (x : Int)) := by show _ = _; rw [IntKind.wrap_u64]; omega
    have HRw2 : Hid (IntKind.u64.wrap (wrap64 (R : Int)) = (R : Int)) := by show _ = _; rw [show wrap64 (R : Int) = (R : Int) from by unfold wrap64; omega]; exact HRw.out
    clear hyw
    by_cases hge : R ≤ x * y
    · have hres : refilled most x (tok, last) now = (most, now) := by
        unfold refilled
        rw [if_neg hle]
        simp only [hpr]
        congr 1
        omega
      have Hres := Lib.hid hres
      by_cases hk : 0 < K
      · have hk0 : decide (0 < K) = true := decide_eq_true hk
        clear hres hmul hb hg hpr hge hxl hyl hK hL ht hl hn hm
        have hRw := HRw.out
        have hRw2 := HRw2.out
        go_enter Try.func18, Try.ntmps18
        go_wp2
        go_quiet (((try rw [Hxw.out]); (rw [Hyw.out]); exact (Hmul.out _).mono fun e w2 h => ⟨h.1, _, h.2⟩))
        go_wp2
        go_quiet (fail)
        go_wp2
        first
          | go_end0
          | (refine bodyPost_ret (results_none rfl _ _ _) rfl ?_)
        exact ⟨rfl, by rw [Hres.out]; exact two_set Hb.out _ _⟩
      · have hk0 : decide (0 < K) = false := decide_eq_false hk
        have hl0 : decide (R ≤ L) = true := decide_eq_true (by omega)
        clear hk
        clear hres hmul hb hg hpr hge hxl hyl hK hL ht hl hn hm
        have hRw := HRw.out
        have hRw2 := HRw2.out
        go_enter Try.func18, Try.ntmps18
        go_wp2
        go_quiet (((try rw [Hxw.out]); (rw [Hyw.out]); exact (Hmul.out _).mono fun e w2 h => ⟨h.1, _, h.2⟩))
        go_wp2
        go_quiet (fail)
        go_wp2
        first
          | go_end0
          | (refine bodyPost_ret (results_none rfl _ _ _) rfl ?_)
        exact ⟨rfl, by rw [Hres.out]; exact two_set Hb.out _ _⟩
    · have hres : refilled most x (tok, last) now = (tok + (L : Int), now) := by
        unfold refilled
        rw [if_neg hle]
        simp only [hpr]
        congr 1
        omega
      have Hres := Lib.hid hres
      have hk0 : decide (0 < K) = false := decide_eq_false (by omega)
      have hl0 : decide (R ≤ L) = false := decide_eq_false (by omega)
      have hLs : (L : Int) ≤ 2147483648 := by omega
      have hL0 : (0 : Int) ≤ (L : Int) := by omega
      have hts : tok ≤ 2147483648 := by omega
      have ht0 : 0 ≤ tok := by omega
      clear hres hmul hb hg hpr hge hxl hyl hK hL ht hl hn hm
      have hRw := HRw.out
      have hRw2 := HRw2.out
      go_enter Try.func18, Try.ntmps18
      go_wp2
      go_quiet (((try rw [Hxw.out]); (rw [Hyw.out]); exact (Hmul.out _).mono fun e w2 h => ⟨h.1, _, h.2⟩))
      go_wp2
      go_quiet (fail)
      go_wp2
      first
        | go_end0
        | (refine bodyPost_ret (results_none rfl _ _ _) rfl ?_)
      exact ⟨rfl, by rw [Hres.out]; exact two_set Hb.out _ _⟩
end Go.Proofs.Ytkbbelbcjokncaa
