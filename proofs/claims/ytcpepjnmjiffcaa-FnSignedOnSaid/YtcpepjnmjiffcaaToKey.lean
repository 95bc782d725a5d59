/- The contract of the law's copy of a key. -/
import Derived.Test.YtcpepjnmjiffcaaKeys
namespace Go.Proofs.Ytcpepjnmjiffcaa
open Go.RowKit
set_option linter.unusedVariables false
theorem toKey_any (a b e : Int) (w : World) : Calls Try.prog 47 #[keyA a b e] w fun e' w' => e' = .returned (keyA a b e) ∧ Ext.of w w' := by
  go_enter Try.func47, Try.ntmps47
  go_wp2
  refine bodyPost_ret (v := keyA a b e) (by simp [results, Try.results47, go_sem]) rfl ⟨rfl, (((Ext.of.refl _).alloc _).alloc _).alloc _⟩
end Go.Proofs.Ytcpepjnmjiffcaa
