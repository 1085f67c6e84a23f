/- json: the parser's rest, blanks, digits. No conditions. -/
import Derived.Test.YtkbopeoaoakfnaaDoorJ2
import Derived.Test.YtkbopeoaoakfnaaDoorJB
namespace Go.Proofs.YtkbopeoaoakfnaaDoor
open Go.RowKit
section
variable {w w' : World} {base g : Nat} {s : List UInt8} {st : PS}
theorem extract_drop (s : List UInt8) (k : Nat) : (⟨s.toArray⟩ : ByteArray).extract k (⟨s.toArray⟩ : ByteArray).size = ⟨(s.drop k).toArray⟩ := by
  apply ByteArray.ext
  rw [ByteArray.data_extract]
  simp [ByteArray.size]
  exact List.take_of_length_le (by simp)
theorem extract_mid (s : List UInt8) (j k : Nat) : (⟨s.toArray⟩ : ByteArray).extract j k = ⟨((s.drop j).take (k - j)).toArray⟩ := by
  apply ByteArray.ext
  rw [ByteArray.data_extract]
  simp
set_option maxRecDepth 100000 in
set_option maxHeartbeats 1000000 in
theorem rest_any (h : Ps w base g s st) : Calls Tryd.prog 57 #[.pointer (some ⟨g, 0, none⟩)] w fun x w' => x = .returned (.string ⟨(s.drop st.at_).toArray⟩) ∧ ∃ n, w' = w.drewN n := by
  obtain ⟨c0, c1, c2⟩ := h.at_
  obtain ⟨p, _, _, hat, _⟩ := h
  obtain ⟨k, hk⟩ : ∃ k, k = st.at_ := ⟨_, rfl⟩
  obtain ⟨sb, hsb⟩ : ∃ sb : ByteArray, sb = ⟨s.toArray⟩ := ⟨_, rfl⟩
  have hsz : sb.size = s.length := by rw [hsb]; simp [ByteArray.size]
  have h0 : (0 : Int) ≤ (k : Int) := by omega
  have h1 : (k : Int) ≤ (sb.size : Int) := by omega
  have hE := Lib.hid (show sb.extract k sb.size = ⟨(s.drop k).toArray⟩ by rw [hsb]; exact extract_drop s k)
  rw [← hsb] at c0
  rw [← hk] at c1 ⊢
  clear hsb hk hsz hat c2
  go_enter Tryd.func57, Tryd.ntmps57
  go_wp2
  go_quiet (fail)
  go_wp2
  go_ret
  exact ⟨by rw [hE.out]; rfl, _, rfl⟩
end
end Go.Proofs.YtkbopeoaoakfnaaDoor
