/- The contracts of the program's lists in new memory: Activity. -/
import Derived.Test.YtoagpfdhbcgdcaaDoorActivitys
import Derived.Test.YtoagpfdhbcgdcaaDoorG1
namespace Go.Proofs.YtoagpfdhbcgdcaaDoor
open Go.RowKit
set_option linter.unusedVariables false
theorem acC_one (x : Ac) : ∀ u ∈ acC x, u.oneCell' = true := by intro u hu; simp [acC] at hu; rcases hu with rfl | rfl | rfl | rfl | rfl <;> rfl
end Go.Proofs.YtoagpfdhbcgdcaaDoor
