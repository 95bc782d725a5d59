/- The contracts of the functions of the laws over slices of integers: a copy, equality, marks. -/
import Derived.Test.YthbjbodkbpbbaaaWords
namespace Go.Proofs.Ythbjbodkbpbbaaa
open Go.RowKit
set_option linter.unusedVariables false

theorem eltInt : Elt Try.prog 62 3 1 8 := elt_mk (z := .int .i64 0) (by kernel_rfl) rfl Try.underlying62 (by decide)
abbrev ints (xs : List Int) : List Value := xs.map (Value.int .i64)
theorem ints_at {xs : List Int} {k : Nat} (hk : k < xs.length) : ∃ x, xs[k]? = some x ∧ (ints xs)[k]? = some (.int .i64 x) := ⟨xs[k], by simp [hk], by simp [ints, hk]⟩
theorem own_old {w : World} {base : Nat} {e : TypeId} {g n c : Nat} {vs : List Value} (h : w.ownsRow base e 1 (.slice (some ⟨g, 0, none⟩) n c) n vs) {k : Nat} (hk : k < n) :
    ∃ u, vs[k]? = some u ∧ w.cell? ⟨g, k, none⟩ = some u := by
  have hl := h.1
  exact ⟨vs[k]'(by omega), by simp, by rw [h.cellAt k (by omega)]; simp⟩
theorem take_set_snoc {vs ws : List Value} {k : Nat} {u : Value} (h : vs.take k = ws.take k) (hk : k < vs.length) (hu : ws[k]? = some u) : (vs.set k u).take (k + 1) = ws.take (k + 1) := by
  have hkw : k < ws.length := by
    rcases Nat.lt_or_ge k ws.length with h1 | h1
    · exact h1
    · rw [List.getElem?_eq_none h1] at hu; cases hu
  rw [List.take_succ_eq_append_getElem (by simpa using hk), List.take_succ_eq_append_getElem hkw]
  rw [List.getElem?_eq_getElem hkw] at hu
  injection hu with hu
  simp [List.take_set_of_le, h, hu]

theorem take_next {α : Type} {xs ys : List α} {k : Nat} {x : α} (h : xs.take k = ys.take k) (hx : xs[k]? = some x) (hy : ys[k]? = some x) : xs.take (k + 1) = ys.take (k + 1) := by
  rw [List.take_add_one, List.take_add_one, h, hx, hy]

/-- The marks k, k + 1, .. -/
def markN (k : Nat) (n : Nat) : List Int := (List.range n).map fun j => ((k + j : Nat) : Int)
theorem markN_at {k n j : Nat} (h : j < n) : (ints (markN k n))[j]? = some (.int .i64 ((k + j : Nat) : Int)) := by simp [ints, markN, h]
theorem markN_length (k n : Nat) : (markN k n).length = n := by simp [markN]

end Go.Proofs.Ythbjbodkbpbbaaa
