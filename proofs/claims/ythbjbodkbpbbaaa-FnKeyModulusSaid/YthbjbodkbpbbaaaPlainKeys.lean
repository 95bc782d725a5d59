/- The plain law of keys: their primes may change places. -/
import Derived.Test.YthbjbodkbpbbaaaDrawSign
import Derived.Test.YthbjbodkbpbbaaaSign
namespace Go.Proofs.Ythbjbodkbpbbaaa
open Go.RowKit
set_option linter.unusedVariables false
theorem invX_flip (a b e : Int) : invX a b e = invX b a e := by
  have h : roundF a b = roundF b a := by rw [roundF_eq, roundF_eq, Int.mul_comm]
  unfold invX; rw [h]
theorem keyP_flip {a b e : Int} (h : keyP a b e) : keyP b a e := by
  obtain ⟨h1, h2, h3, h4, h5, h6, h7⟩ := h
  exact ⟨h2, h1, h4, h3, fun e => h5 e.symm, h6, by rw [invX_flip]; exact h7⟩
theorem keyV_flip (a b e : Int) : keyV b a e = keyV a b e := by
  cases h : keyV a b e with
  | true => exact keyV_yes (keyP_flip (keyV_iff.1 h))
  | false => exact keyV_no (fun h' => by have := keyV_yes (keyP_flip h'); rw [h] at this; cases this)
theorem keyV_same (a e : Int) : keyV a a e = false := keyV_no (fun h => h.2.2.2.2.1 rfl)
theorem mod_facts {a b e : Int} (h : keyV a b e = true) : ∃ m, modF a b e = m ∧ modF b a e = m ∧ 0 ≤ m ∧ m ≤ 1000000 ∧ m.tmod a = 0 ∧ m.tmod b = 0 ∧ 0 < a ∧ 0 < b := by
  have hp := keyV_iff.1 h
  have h' : keyV b a e = true := by rw [keyV_flip]; exact h
  obtain ⟨h1, h2, _⟩ := hp
  refine ⟨a * b, modF_yes h, by rw [modF_yes h', Int.mul_comm], Int.mul_nonneg (by omega) (by omega), ?_, Int.mul_tmod_right _ _, Int.mul_tmod_left _ _, by omega, by omega⟩
  have : a * b ≤ 997 * 997 := Int.mul_le_mul h1.2 h2.2 (by omega) (by omega)
  omega
end Go.Proofs.Ythbjbodkbpbbaaa
