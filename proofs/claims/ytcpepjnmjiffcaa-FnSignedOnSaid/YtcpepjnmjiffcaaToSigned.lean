/- The contracts of the law's copy of a signature, and of its size. -/
import Derived.Test.YtcpepjnmjiffcaaToKey
import Derived.Test.YtcpepjnmjiffcaaSigned
namespace Go.Proofs.Ytcpepjnmjiffcaa
open Go.RowKit
set_option linter.unusedVariables false
theorem toSigned_any (s : ByteArray) (m x g : Int) (w : World) : Calls Try.prog 31 #[sigA s m x g] w fun e' w' => e' = .returned (sigA s m x g) ∧ Ext.of w w' := by
  go_enter Try.func31, Try.ntmps31
  go_wp2
  refine bodyPost_ret (v := sigA s m x g) (by simp [results, Try.results31, go_sem]) rfl ⟨rfl, (((Ext.of.refl _).alloc _).alloc _).alloc _⟩
theorem szSigned_yes (s : ByteArray) (m x g : Int) (k : Nat) (hk : k ≤ 1048576) (h : s.size ≤ k) (w : World) :
    Calls Try.prog 29 #[sigA s m x g, .int .i64 k] w fun e' w' => e' = .returned (.int .i64 ((k : Int) - s.size)) ∧ Ext.of w w' := by
  go_enter Try.func29, Try.ntmps29
  go_wp2
  go_ret
  exact ⟨rfl, (Ext.of.refl _).alloc _⟩
theorem szSigned_no (s : ByteArray) (m x g : Int) (k : Nat) (hk : k ≤ 1048576) (h : ¬ s.size ≤ k) (hs : s.size ≤ maxLen) (w : World) :
    Calls Try.prog 29 #[sigA s m x g, .int .i64 k] w fun e' w' => e' = .returned (.int .i64 (-1)) ∧ Ext.of w w' := by
  unfold maxLen at hs
  go_enter Try.func29, Try.ntmps29
  go_wp2
  go_ret
  exact ⟨rfl, (Ext.of.refl _).alloc _⟩
end Go.Proofs.Ytcpepjnmjiffcaa
