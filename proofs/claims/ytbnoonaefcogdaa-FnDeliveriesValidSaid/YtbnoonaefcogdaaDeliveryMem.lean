/- The contracts of the program's lists in new memory: Delivery. -/
import Derived.Test.YtbnoonaefcogdaaDeliverys
import Derived.Test.YtbnoonaefcogdaaMem
namespace Go.Proofs.Ytbnoonaefcogdaa
open Go.RowKit
set_option linter.unusedVariables false
theorem dlC_one (x : Dl) : ∀ u ∈ dlC x, u.oneCell' = true := by intro u hu; simp [dlC] at hu; rcases hu with rfl | rfl | rfl | rfl <;> rfl
end Go.Proofs.Ytbnoonaefcogdaa
