/- json: assertions on values. Printed by wip/genJW.py. No conditions. -/
import Derived.Test.YtkbopeoaoakfnaaDoorJ8
namespace Go.Proofs.YtkbopeoaoakfnaaDoor
open Go.RowKit
theorem zero_Bool (w : World) : (zeroValue 71).run Tryd.prog w = .ok (.bool false) w := by kernel_rfl
theorem is_Bool (v : Value) (w : World) : (Instr.typeAssert (.iface 71 v) 30 71 true).run Tryd.prog w = .ok (.tuple #[v, .bool true]) w := by
  simp [Instr.typeAssert, run_underlying Tryd.underlying71]
theorem no_Bool {t : TypeId} (h : t ≠ 71) (v : Value) (w : World) : (Instr.typeAssert (.iface t v) 30 71 true).run Tryd.prog w = .ok (.tuple #[.bool false, .bool false]) w := by
  simp [Instr.typeAssert, run_underlying Tryd.underlying71, h, zero_Bool w]
theorem nil_Bool (w : World) : (Instr.typeAssert .nilIface 30 71 true).run Tryd.prog w = .ok (.tuple #[.bool false, .bool false]) w := by
  simp [Instr.typeAssert, run_underlying Tryd.underlying71, zero_Bool w]
theorem zero_Number (w : World) : (zeroValue 61).run Tryd.prog w = .ok (.string ⟨#[]⟩) w := by kernel_rfl
theorem is_Number (v : Value) (w : World) : (Instr.typeAssert (.iface 61 v) 30 61 true).run Tryd.prog w = .ok (.tuple #[v, .bool true]) w := by
  simp [Instr.typeAssert, run_underlying Tryd.underlying61]
theorem no_Number {t : TypeId} (h : t ≠ 61) (v : Value) (w : World) : (Instr.typeAssert (.iface t v) 30 61 true).run Tryd.prog w = .ok (.tuple #[.string ⟨#[]⟩, .bool false]) w := by
  simp [Instr.typeAssert, run_underlying Tryd.underlying61, h, zero_Number w]
theorem nil_Number (w : World) : (Instr.typeAssert .nilIface 30 61 true).run Tryd.prog w = .ok (.tuple #[.string ⟨#[]⟩, .bool false]) w := by
  simp [Instr.typeAssert, run_underlying Tryd.underlying61, zero_Number w]
theorem zero_Text (w : World) : (zeroValue 41).run Tryd.prog w = .ok (.string ⟨#[]⟩) w := by kernel_rfl
theorem is_Text (v : Value) (w : World) : (Instr.typeAssert (.iface 41 v) 30 41 true).run Tryd.prog w = .ok (.tuple #[v, .bool true]) w := by
  simp [Instr.typeAssert, run_underlying Tryd.underlying41]
theorem no_Text {t : TypeId} (h : t ≠ 41) (v : Value) (w : World) : (Instr.typeAssert (.iface t v) 30 41 true).run Tryd.prog w = .ok (.tuple #[.string ⟨#[]⟩, .bool false]) w := by
  simp [Instr.typeAssert, run_underlying Tryd.underlying41, h, zero_Text w]
theorem nil_Text (w : World) : (Instr.typeAssert .nilIface 30 41 true).run Tryd.prog w = .ok (.tuple #[.string ⟨#[]⟩, .bool false]) w := by
  simp [Instr.typeAssert, run_underlying Tryd.underlying41, zero_Text w]
theorem zero_List (w : World) : (zeroValue 49).run Tryd.prog w = .ok (.slice none 0 0) w := by kernel_rfl
theorem is_List (v : Value) (w : World) : (Instr.typeAssert (.iface 49 v) 30 49 true).run Tryd.prog w = .ok (.tuple #[v, .bool true]) w := by
  simp [Instr.typeAssert, run_underlying Tryd.underlying49]
theorem no_List {t : TypeId} (h : t ≠ 49) (v : Value) (w : World) : (Instr.typeAssert (.iface t v) 30 49 true).run Tryd.prog w = .ok (.tuple #[.slice none 0 0, .bool false]) w := by
  simp [Instr.typeAssert, run_underlying Tryd.underlying49, h, zero_List w]
theorem nil_List (w : World) : (Instr.typeAssert .nilIface 30 49 true).run Tryd.prog w = .ok (.tuple #[.slice none 0 0, .bool false]) w := by
  simp [Instr.typeAssert, run_underlying Tryd.underlying49, zero_List w]
theorem zero_Object (w : World) : (zeroValue 73).run Tryd.prog w = .ok (.slice none 0 0) w := by kernel_rfl
theorem is_Object (v : Value) (w : World) : (Instr.typeAssert (.iface 73 v) 30 73 true).run Tryd.prog w = .ok (.tuple #[v, .bool true]) w := by
  simp [Instr.typeAssert, run_underlying Tryd.underlying73]
theorem no_Object {t : TypeId} (h : t ≠ 73) (v : Value) (w : World) : (Instr.typeAssert (.iface t v) 30 73 true).run Tryd.prog w = .ok (.tuple #[.slice none 0 0, .bool false]) w := by
  simp [Instr.typeAssert, run_underlying Tryd.underlying73, h, zero_Object w]
theorem nil_Object (w : World) : (Instr.typeAssert .nilIface 30 73 true).run Tryd.prog w = .ok (.tuple #[.slice none 0 0, .bool false]) w := by
  simp [Instr.typeAssert, run_underlying Tryd.underlying73, zero_Object w]
theorem zero_Null (w : World) : (zeroValue 70).run Tryd.prog w = .ok (.agg #[]) w := by kernel_rfl
theorem is_Null (v : Value) (w : World) : (Instr.typeAssert (.iface 70 v) 30 70 true).run Tryd.prog w = .ok (.tuple #[v, .bool true]) w := by
  simp [Instr.typeAssert, run_underlying Tryd.underlying70]
theorem no_Null {t : TypeId} (h : t ≠ 70) (v : Value) (w : World) : (Instr.typeAssert (.iface t v) 30 70 true).run Tryd.prog w = .ok (.tuple #[.agg #[], .bool false]) w := by
  simp [Instr.typeAssert, run_underlying Tryd.underlying70, h, zero_Null w]
theorem nil_Null (w : World) : (Instr.typeAssert .nilIface 30 70 true).run Tryd.prog w = .ok (.tuple #[.agg #[], .bool false]) w := by
  simp [Instr.typeAssert, run_underlying Tryd.underlying70, zero_Null w]
end Go.Proofs.YtkbopeoaoakfnaaDoor
