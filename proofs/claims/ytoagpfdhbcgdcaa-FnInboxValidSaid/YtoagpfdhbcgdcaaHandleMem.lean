/- The contracts of the program's lists in new memory: Handle. -/
import Derived.Test.YtoagpfdhbcgdcaaHandles
import Derived.Test.YtoagpfdhbcgdcaaMem
namespace Go.Proofs.Ytoagpfdhbcgdcaa
open Go.RowKit
set_option linter.unusedVariables false
theorem hdC_one (x : Hd) : ∀ u ∈ hdC x, u.oneCell' = true := by intro u hu; simp [hdC] at hu; rcases hu with rfl | rfl <;> rfl
end Go.Proofs.Ytoagpfdhbcgdcaa
