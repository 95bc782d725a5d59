/- The contracts of the functions of the laws over slices of integers: a copy, equality, marks. -/
import Derived.Test.YtlfjnaeepblhiaaFlat
import Derived.Test.YtlfjnaeepblhiaaMem
namespace Go.Proofs.Ytlfjnaeepblhiaa
open Go.RowKit
set_option linter.unusedVariables false

theorem eltInt : Elt Try.prog 85 3 1 8 := elt_mk (z := .int .i64 0) (by kernel_rfl) rfl Try.underlying85 (by decide)
abbrev ints (xs : List Int) : List Value := xs.map (Value.int .i64)
theorem ints_at {xs : List Int} {k : Nat} (hk : k < xs.length) : ∃ x, xs[k]? = some x ∧ (ints xs)[k]? = some (.int .i64 x) := ⟨xs[k], by simp [hk], by simp [ints, hk]⟩


/-- The marks k, k + 1, .. -/
def markN (k : Nat) (n : Nat) : List Int := (List.range n).map fun j => ((k + j : Nat) : Int)
theorem markN_at {k n j : Nat} (h : j < n) : (ints (markN k n))[j]? = some (.int .i64 ((k + j : Nat) : Int)) := by simp [ints, markN, h]
theorem markN_length (k n : Nat) : (markN k n).length = n := by simp [markN]

end Go.Proofs.Ytlfjnaeepblhiaa
