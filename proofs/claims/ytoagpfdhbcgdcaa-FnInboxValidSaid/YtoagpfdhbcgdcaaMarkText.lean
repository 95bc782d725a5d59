/- The contract of the laws' marks: a text for each number. -/
import Derived.Test.YtoagpfdhbcgdcaaFlat
namespace Go.Proofs.Ytoagpfdhbcgdcaa
open Go.RowKit
set_option linter.unusedVariables false

/-- The decimal digits of a number, ahead of a text. -/
def decB (k : Nat) (acc : ByteArray) : ByteArray := if h : k = 0 then acc else decB (k / 10) (⟨#[48 + UInt8.ofNat (k % 10)]⟩ ++ acc)
termination_by k
theorem decB_zero (acc : ByteArray) : decB 0 acc = acc := by rw [decB]; simp
theorem decB_step {k : Nat} (h : k ≠ 0) (acc : ByteArray) : decB k acc = decB (k / 10) (⟨#[48 + UInt8.ofNat (k % 10)]⟩ ++ acc) := by rw [decB]; simp [h]
@[irreducible] def mtB (k : Nat) : ByteArray := if k = 0 then ⟨#[109, 48]⟩ else ⟨#[109]⟩ ++ decB k ⟨#[]⟩
theorem mtB_pos {k : Nat} (h : k ≠ 0) : mtB k = ⟨#[109]⟩ ++ decB k ⟨#[]⟩ := by unfold mtB; rw [if_neg h]
theorem ret_str {a b : ByteArray} (h : a = b) : Ending.returned (.string a) = .returned (.string b) := by rw [h]
end Go.Proofs.Ytoagpfdhbcgdcaa
