/- Restart and SetFuse on a disk of the call's own. No conditions. -/
import Derived.Test.YtdggibigfocadaaD13
import Derived.Test.YtdggibigfocadaaD11
namespace Go.Proofs.Ytdggibigfocadaa
open Go.RowKit
variable {w w' w0 : World} {g : Nat} {s : DS} {H : List (Nat × Obj)}
theorem Restart_dk (h : DK w0 w g s H) {A : Option Addr} {cc : Nat} {ch : List UInt8} (hch : Reads w w0.heap.size 1 A ch.length (bvs ch)) :
    Calls Try.prog 15 #[.pointer (some ⟨g, 0, none⟩), .slice A ch.length cc] w fun e w' => e = .returned (.tuple #[]) ∧ DK w0 w' g (s.restart ch) H := by
  obtain ⟨own, S, P, hD, h0, hH⟩ := h
  exact (Restart_any hD hch (Nat.le_refl _)).mono fun e w' h => ⟨h.1, DK.after hD h0 hH h.2⟩
theorem SetFuse_dk (h : DK w0 w g s H) (n : Int) : Calls Try.prog 18 #[.pointer (some ⟨g, 0, none⟩), .int .i64 n] w
    fun e w' => e = .returned (.tuple #[]) ∧ DK w0 w' g (s.setFuse n) H := by
  obtain ⟨own, S, P, hD, h0, hH⟩ := h
  exact (SetFuse_any hD n).mono fun e w' hp => ⟨hp.1, DK.after hD h0 hH ⟨own, S, P, hp.2.1, hp.2.2, fun k hk => .inl hk⟩⟩
end Go.Proofs.Ytdggibigfocadaa
