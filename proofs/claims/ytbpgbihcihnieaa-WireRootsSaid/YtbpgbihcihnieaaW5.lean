/- The walk of awake: what the program answers at one input. No conditions. -/
import Derived.Test.YtbpgbihcihnieaaW2
import Derived.Test.YtbpgbihcihnieaaW3
import Derived.Test.YtbpgbihcihnieaaW4
import Derived.Lib.SlBytesConst
namespace Go.Proofs.Ytbpgbihcihnieaa
open Go.RowKit

def ab : List UInt8 := [97, 98]
theorem awake_lists (w : World) (B : Nat) (A : Option Addr) (c : Nat) (hr : Reads w B 1 A 2 (bvs ab)) (hc : 2 ≤ c) (g : Nat) (hB : g < B) (h0 : w.cell? ⟨g, 0, none⟩ = some (.slice A 2 c)) (h1 : w.cell? ⟨g, 1, none⟩ = some (.slice none 0 0)) :
    Lists w B (some ⟨g, 0, none⟩) [ab, []] := by
  refine ⟨[.slice A 2 c, .slice none 0 0], ⟨rfl, fun _ => ⟨_, rfl, hB, fun j u hj => ?_⟩⟩, fun i hi => ?_⟩
  · rw [add_none]
    match j, hj with
    | 0, hj => simp at hj; subst hj; exact h0
    | 1, hj => simp at hj; subst hj; exact h1
  · match i, hi with
    | 0, _ => exact ⟨A, c, rfl, hc, hr⟩
    | 1, _ => exact ⟨none, 0, rfl, by simp, Reads.none_⟩
theorem awake_encB : encB [ab, []] = [0, 0, 0, 2, 0, 0, 0, 2, 97, 98, 0, 0, 0, 0] := by decide
theorem awake_encE : encE [ab, []] = 0 := by decide

theorem reads_two (w : World) (fr : Nat × Nat) (o : Obj) : Reads ((w.alloc (.cells #[.int .u8 97, .int .u8 98] 5 fr)).alloc o) (w.heap.size + 1 + 1) 1 (some ⟨w.heap.size, 0, none⟩) 2 (bvs ab) := by
  refine ⟨rfl, fun _ => ⟨_, rfl, by simp; omega, fun j u hj => ?_⟩⟩
  rw [add_none, World.cell?_alloc_lt _ _ _ (by simp), World.cell?_alloc_mark]
  simpa [bvs, ab, bv] using hj
set_option maxRecDepth 100000 in
set_option maxHeartbeats 1000000 in
theorem awake_any (w : World) : Calls Try.prog 12 #[] w fun e w' => e = .returned (.bool true) ∧ Below w.heap.size w w' := by
  have kc := fun (w : World) (C : Array Value) (n c : Nat) => Lib.run_convert_bytes_const (P := Try.prog) w 24 5 C n c Try.underlying24 Try.underlying5
  go_enter Try.func12, Try.ntmps12
  go_wp2_with (first
    | (go_at_call 14; go_must (refine (Encode_any _ _ [ab, []] _ (by simp only [World.size_alloc]; exact awake_lists _ _ (some ⟨w.heap.size, 0, none⟩) 2 (reads_two _ _ _) (by simp) (w.heap.size + 1) (by simp) (cell_at (by simp) rfl) (cell_at (by simp) rfl)) (by simp)).mono ?_; rintro e w1 ⟨v, rfl, hown, hb⟩; rw [awake_encE, awake_encB] at *; obtain ⟨A, c, rfl, hc, hr⟩ := own8_form hown; have hstr := run_str8 (n := 14) hr c; have hb1 : Below w.heap.size w w1 := (((Below.refl _ _).alloc (Nat.le_refl _) _).alloc (by simp) _).trans (hb.mono (by simp; omega))))
    | (go_at_call 16; go_must (refine (Account_any _ _).mono ?_; rintro e w2 ⟨rfl, hb2⟩; have hb3 := hb1.trans (hb2.mono hb1.size))))
  go_ret
  exact ⟨by show Ending.returned (.bool (accOK [97])) = _; rw [show accOK [97] = true from by decide], hb3⟩
end Go.Proofs.Ytbpgbihcihnieaa
