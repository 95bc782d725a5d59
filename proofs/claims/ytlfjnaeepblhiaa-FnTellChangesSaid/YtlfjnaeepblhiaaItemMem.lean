/- The contracts of the program's lists in new memory: Item. -/
import Derived.Test.YtlfjnaeepblhiaaItems
import Derived.Test.YtlfjnaeepblhiaaMem
namespace Go.Proofs.Ytlfjnaeepblhiaa
open Go.RowKit
set_option linter.unusedVariables false
theorem imC_one (x : Im) : ∀ u ∈ imC x, u.oneCell' = true := by intro u hu; simp [imC] at hu; rcases hu with rfl | rfl | rfl | rfl <;> rfl
end Go.Proofs.Ytlfjnaeepblhiaa
