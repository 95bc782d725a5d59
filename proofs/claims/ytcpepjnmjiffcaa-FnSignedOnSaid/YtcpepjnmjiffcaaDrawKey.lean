/- The contracts of the draws of moduli, exponents, numbers and keys. -/
import Derived.Test.YtcpepjnmjiffcaaDraw
import Derived.Test.YtcpepjnmjiffcaaModuli
namespace Go.Proofs.Ytcpepjnmjiffcaa
open Go.RowKit
set_option linter.unusedVariables false

end Go.Proofs.Ytcpepjnmjiffcaa
