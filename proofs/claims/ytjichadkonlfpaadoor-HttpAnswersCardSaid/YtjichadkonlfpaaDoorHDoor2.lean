/- What the list of laid variables gives a walk: the powers of ten. No conditions. -/
import Derived.Test.YtjichadkonlfpaaDoorHA4
import Derived.Lib.LaidU8
import Derived.SevenTiedAt
namespace Go.Proofs.YtjichadkonlfpaaDoor
open Go.RowKit
theorem g10 : Tryd.prog.globalNamed "internal/strconv.uint64pow10" = some 0 := by kernel_rfl
theorem g10t : (Tryd.prog.globals[0]?).map (·.type) = some 108 := by kernel_rfl
theorem cellsU64 : Tryd.prog.cellsOf 88 = 1 := by kernel_rfl
theorem cells20 : Tryd.prog.cellsOf 108 = 20 := by kernel_rfl
theorem pow10_of {W : World} {l : List (String × DataW Unit)} {d : DataW Unit} (hp : (l.all fun x => x.2.handleName?.isNone) = true) (hm : ("internal/strconv.uint64pow10", d) ∈ l) (hd : d = Lib.tabData .u64 Lib.pow10Tab) (h : laidMetH Tryd.prog l W) : Pow10 W := by
  rw [MakeChecks.laidMetH_plain _ _ _ hp] at h
  subst hd
  obtain ⟨g', t', cs, fuel, p, hg', ht', hvar, hdd⟩ := Lib.laidMet.reads h hm
  obtain rfl := Option.some.inj (g10.symm.trans hg')
  obtain rfl := Option.some.inj (g10t.symm.trans ht')
  unfold Pow10 Lib.TabIs
  rw [hvar, ← Lib.cells_of_tab Tryd.underlying108 Tryd.underlying88 cellsU64 cells20 hdd]
end Go.Proofs.YtjichadkonlfpaaDoor
