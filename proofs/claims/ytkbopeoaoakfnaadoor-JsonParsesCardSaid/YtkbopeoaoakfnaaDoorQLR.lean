/- The texts LJParses of this work, merged by wip/merge.py. No conditions. -/
import Derived.Test.YtkbopeoaoakfnaaDoorQRH
import Derived.Test.YtkbopeoaoakfnaaDoorQWB
import Derived.Test.YtkbopeoaoakfnaaDoorQAS
namespace Go.Proofs.YtkbopeoaoakfnaaDoor
open Go.RowKit
set_option maxRecDepth 100000 in
set_option maxHeartbeats 1000000 in
theorem jsonParses_walk (v0 : Value) (x0 : ByteArray) (W : World) (a0 : ArgS v0 x0) : Calls Tryd.prog 5 #[v0] W fun e W' => e = .returned (.bool true) ∧ Below W.heap.size W W' := by
  obtain ⟨rfl, hx⟩ := a0
  obtain ⟨s, hs⟩ : ∃ s : List UInt8, x0 = ⟨s.toArray⟩ := ⟨x0.data.toList, by cases x0; simp⟩
  have HRP : Hid (∀ w, Calls Tryd.prog 18 #[.string x0] w (RParsePost w s)) := by
    intro w
    rw [hs]
    exact rparse_any w s
  have HPP : Hid (∀ w, Calls Tryd.prog 16 #[.string x0] w (ParsePost w s)) := by
    intro w
    rw [hs]
    exact parse_any w s
  clear hs hx
  obtain ⟨R, hR⟩ : ∃ R, R = parseP s := ⟨_, rfl⟩
  have HR := Lib.hid hR
  rcases parseP_cases s with ⟨h0, hok, hp, _⟩ | ⟨he, hnil, ha0, ha1⟩
  · have hk : (parseP s).2.1 = 0 := by rw [hp]
    rw [← hR] at h0 hok hk
    have HOK := Lib.hid hok
    have H0 := Lib.hid (And.intro h0 hk)
    clear hR h0 hok hp hk
    go_enter Tryd.func5, Tryd.ntmps5
    go_upto_region 4 with (first
      | (go_at_call 10; go_must (refine (awake_any W).mono ?_; rintro e w1 ⟨rfl, hb1⟩; have B1 := Lib.hid hb1; clear hb1))
      | (go_at_call 18; go_must (refine (HRP.out w1).mono ?_; rintro e w2 ⟨us, t, rfl, hb2, hT2, ht2⟩; rw [← HR.out] at ht2; rw [← HR.out, H0.out.1, H0.out.2]; obtain rfl := ht2 H0.out.1; obtain ⟨kx, bx, sx, Ax, nx, cx, Ay, ny, cy, rfl⟩ := hT2.form; have B2 := Lib.hid hb2; have HT2 := Lib.hid hT2; clear hb2 hT2 ht2)))
    obtain ⟨w3, hw3⟩ : ∃ w3, w3 = w2.alloc (.cells #[.int .i64 kx, .bool bx, .string ⟨sx.toArray⟩, .slice Ax nx cx, .slice Ay ny cy] 35) := ⟨_, rfl⟩
    have hb3 : Below w2.heap.size w2 w3 := by rw [hw3]; exact (Below.refl _ _).alloc (Nat.le_refl _) _
    have hx3 : w3.heap[w2.heap.size]? = some (.cells #[.int .i64 kx, .bool bx, .string ⟨sx.toArray⟩, .slice Ax nx cx, .slice Ay ny cy] 35 (0, 0)) := by rw [hw3]; exact heap_alloc_new _ _
    rw [← hw3]
    have B3 := Lib.hid hb3
    have HX3 := Lib.hid hx3
    have HT3 := Lib.hid (HT2.out.keep (fun q hq => hb3.block q hq.2) (fun q hq => Nat.lt_of_lt_of_le hq.2 hb3.size))
    clear hw3 hb3 hx3
    go_upto_region 9 with (go_at_call 16; go_must (refine (HPP.out w3).mono ?_; rintro e w4 ⟨v, rfl, hb4, hV4⟩; rw [← HR.out] at hV4; rw [← HR.out, H0.out.1, H0.out.2]; have B4 := Lib.hid hb4; have HV4 := Lib.hid hV4; clear hb4 hV4))
    have q1 := heap_below HX3.out B4.out
    obtain ⟨z0, z1, z2, z3, z4, zf⟩ := row5 q1
    have hv1 := HV4.out.one
    clear q1
    have HIS := Lib.hid (is_any HV4.out (HT3.out.keep (fun q hq => B4.out.block q hq) (fun q hq => Nat.lt_of_lt_of_le hq B4.out.size)) (jt_MJ _ HOK.out) (fun q hq => hq.2) (fun q hq => hq) HOK.out)
    go_wp2_with (go_at_call 19; go_must (refine HIS.out.mono ?_; rintro e w5 ⟨rfl, hb5⟩; have B5 := Lib.hid hb5; clear hb5))
    go_ret
    refine ⟨rfl, ?_⟩
    have s1 := B1.out.size
    have s2 := B2.out.size
    have s3 := B3.out.size
    have s4 := B4.out.size
    exact B1.out.trans ((B2.out.mono s1).trans ((B3.out.mono (by omega)).trans ((B4.out.mono (by omega)).trans (B5.out.mono (by omega)))))
  · rw [← hR] at he hnil
    have HNIL := Lib.hid hnil
    have hne : ((R.2.2 : Int) != 0) = true := by
      rcases he with h | h <;> (rw [h]; rfl)
    have hne0 : ((R.2.2 : Int) == 0) = false := by
      rcases he with h | h <;> (rw [h]; rfl)
    obtain ⟨E, hE⟩ : ∃ E : Int, E = R.2.2 := ⟨_, rfl⟩
    obtain ⟨K, hK⟩ : ∃ K : Int, K = R.2.1 := ⟨_, rfl⟩
    rw [← hE] at hne hne0
    have HEK := Lib.hid (And.intro hE hK)
    have eqE : ((E : Int) != E) = false := by simp
    have eqK : ((K : Int) != K) = false := by simp
    clear hR he hnil ha0 ha1 hE hK
    go_enter Tryd.func5, Tryd.ntmps5
    go_wp2_with (first
      | (go_at_call 10; go_must (refine (awake_any W).mono ?_; rintro e w1 ⟨rfl, hb1⟩; have B1 := Lib.hid hb1; clear hb1))
      | (go_at_call 18; go_must (refine (HRP.out w1).mono ?_; rintro e w2 ⟨us, t, rfl, hb2, hT2, ht2⟩; rw [← HR.out, ← HEK.out.1, ← HEK.out.2]; obtain ⟨kx, bx, sx, Ax, nx, cx, Ay, ny, cy, rfl⟩ := hT2.form; have B2 := Lib.hid hb2; clear hb2 hT2 ht2))
      | (go_at_call 16; go_must (refine (HPP.out _).mono ?_; rintro e w4 ⟨v, rfl, hb4, hV4⟩; rw [← HR.out, HNIL.out] at hV4; cases hV4; rw [← HR.out, ← HEK.out.1, ← HEK.out.2]; have B4 := Lib.hid hb4; clear hb4)))
    go_ret
    refine ⟨by simp, ?_⟩
    have s1 := B1.out.size
    have s2 := B2.out.size
    exact B1.out.trans ((B2.out.mono s1).trans (((Below.refl w2.heap.size w2).alloc (Nat.le_refl _) _).mono (by omega) |>.trans (B4.out.mono (by simp; omega))))
end Go.Proofs.YtkbopeoaoakfnaaDoor
