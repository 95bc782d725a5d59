/- Keys, compared. -/
import Derived.Test.YtcpepjnmjiffcaaTurn
namespace Go.Proofs.Ytcpepjnmjiffcaa
open Go.RowKit
theorem eqlKey (a b e : Int) (W : World) : (binOp .eql 30 (keyA a b e) (keyA a b e)).run Try.prog W = .ok (.bool true) W := by
  rw [run_eql_struct, run_equalIn_agg _ _ _ _ _ (by kernel_rfl) (by kernel_rfl)]
  simp [go_sem, Op.eqFields]
theorem neqKey (a b e : Int) (W : World) : (binOp .neq 30 (keyA a b e) (keyA a b e)).run Try.prog W = .ok (.bool false) W := by
  rw [run_neq_struct, run_equalIn_agg _ _ _ _ _ (by kernel_rfl) (by kernel_rfl)]
  simp [go_sem, Op.eqFields]
end Go.Proofs.Ytcpepjnmjiffcaa
