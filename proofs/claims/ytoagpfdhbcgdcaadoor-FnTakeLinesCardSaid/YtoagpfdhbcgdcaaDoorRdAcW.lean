/- What ReadActivity returns. -/
import Derived.Test.YtoagpfdhbcgdcaaDoorRdAcV
namespace Go.Proofs.YtoagpfdhbcgdcaaDoor
open Go.RowKit
set_option linter.unusedVariables false
set_option linter.unusedSimpArgs false
def acNo : Ac × Bool := ((0, 0, ⟨#[]⟩, ⟨#[]⟩, ⟨#[]⟩), false)
/-- What four words come to. -/
@[irreducible] def raW (p0 p1 p2 p3 : ByteArray) : Ac × Bool := if avalV (kdV p0) (rmV p1) (rhV p2).1.1 (rhV p2).1.2 p3 = true then ((kdV p0, rmV p1, (rhV p2).1.1, (rhV p2).1.2, p3), true) else acNo
def raL : List ByteArray → Ac × Bool
  | [p0, p1, p2, p3] => raW p0 p1 p2 p3
  | _ => acNo
@[irreducible] def raV (s : ByteArray) : Ac × Bool := raL (wordsV s)
theorem ra_four {s p0 p1 p2 p3 : ByteArray} (h : wordsV s = [p0, p1, p2, p3]) : raV s = raW p0 p1 p2 p3 := by unfold raV; rw [h]; rfl
theorem ra_not {s : ByteArray} (h : (wordsV s).length ≠ 4) : raV s = acNo := by
  unfold raV
  match hw : wordsV s, h with
  | [], _ => rfl
  | [_], _ => rfl
  | [_, _], _ => rfl
  | [_, _, _], _ => rfl
  | [_, _, _, _], h => exact absurd (by simp) h
  | _ :: _ :: _ :: _ :: _ :: _, _ => rfl
theorem raW_yes {p0 p1 p2 p3 : ByteArray} (h : avalV (kdV p0) (rmV p1) (rhV p2).1.1 (rhV p2).1.2 p3 = true) : raW p0 p1 p2 p3 = ((kdV p0, rmV p1, (rhV p2).1.1, (rhV p2).1.2, p3), true) := by unfold raW; rw [if_pos h]
theorem raW_no {p0 p1 p2 p3 : ByteArray} (h : avalV (kdV p0) (rmV p1) (rhV p2).1.1 (rhV p2).1.2 p3 = false) : raW p0 p1 p2 p3 = acNo := by unfold raW; rw [if_neg (by rw [h]; simp)]
theorem rh_false {s : ByteArray} (h : (rhV s).2 = false) : hvalV (rhV s).1.1 (rhV s).1.2 = false := by
  unfold rhV at h ⊢
  split
  · rename_i h2; rw [if_pos h2] at h; cases h
  · exact hval_no (wordV_no (fun hp => by have := hp.1; exact absurd this (by decide)))
theorem raW_hd {p0 p1 p2 p3 : ByteArray} (h : (rhV p2).2 = false) : raW p0 p1 p2 p3 = acNo := raW_no (aval_no3 (rh_false h))
theorem rh_size (s : ByteArray) : (rhV s).1.1.size ≤ s.size ∧ (rhV s).1.2.size ≤ s.size := by
  unfold rhV
  split
  · exact ⟨rhN_size, rhH_size⟩
  · exact ⟨Nat.zero_le _, Nat.zero_le _⟩
/-- A text that is read is an activity's. -/
theorem ra_valid {s : ByteArray} (h : (raV s).2 = true) : avalV (raV s).1.1 (raV s).1.2.1 (raV s).1.2.2.1 (raV s).1.2.2.2.1 (raV s).1.2.2.2.2 = true := by
  by_cases h4 : (wordsV s).length = 4
  · obtain ⟨p0, p1, p2, p3, hw⟩ : ∃ p0 p1 p2 p3, wordsV s = [p0, p1, p2, p3] := by
      match hw : wordsV s, h4 with
      | [a, b, c, d], _ => exact ⟨a, b, c, d, rfl⟩
    rw [ra_four hw] at h ⊢
    cases hv : avalV (kdV p0) (rmV p1) (rhV p2).1.1 (rhV p2).1.2 p3 with
    | true => rw [raW_yes hv]; exact hv
    | false => rw [raW_no hv] at h; cases h
  · rw [ra_not h4] at h; cases h
theorem ra_size (s : ByteArray) : (raV s).1.2.2.1.size ≤ s.size ∧ (raV s).1.2.2.2.1.size ≤ s.size ∧ (raV s).1.2.2.2.2.size ≤ s.size := by
  have z : acNo.1.2.2.1.size ≤ s.size ∧ acNo.1.2.2.2.1.size ≤ s.size ∧ acNo.1.2.2.2.2.size ≤ s.size := ⟨Nat.zero_le _, Nat.zero_le _, Nat.zero_le _⟩
  by_cases h4 : (wordsV s).length = 4
  · obtain ⟨p0, p1, p2, p3, hw⟩ : ∃ p0 p1 p2 p3, wordsV s = [p0, p1, p2, p3] := by
      match hw : wordsV s, h4 with
      | [a, b, c, d], _ => exact ⟨a, b, c, d, rfl⟩
    have s2 := words_size (s := s) (x := p2) (by rw [hw]; simp)
    have s3 := words_size (s := s) (x := p3) (by rw [hw]; simp)
    have r2 := rh_size p2
    rw [ra_four hw]
    cases hv : avalV (kdV p0) (rmV p1) (rhV p2).1.1 (rhV p2).1.2 p3 with
    | true => rw [raW_yes hv]; exact ⟨by show (rhV p2).1.1.size ≤ _; omega, by show (rhV p2).1.2.size ≤ _; omega, s3⟩
    | false => rw [raW_no hv]; exact z
  · rw [ra_not h4]; exact z
end Go.Proofs.YtoagpfdhbcgdcaaDoor
