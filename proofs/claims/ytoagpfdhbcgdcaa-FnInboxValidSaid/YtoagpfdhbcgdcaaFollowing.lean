/- The contracts of Follow and Unfollow, the program's and the reference's. -/
import Derived.Test.YtoagpfdhbcgdcaaPlainFol
import Derived.Test.YtoagpfdhbcgdcaaHandleMem
namespace Go.Proofs.Ytoagpfdhbcgdcaa
open Go.RowKit
set_option linter.unusedVariables false
set_option linter.unusedSimpArgs false

theorem hdQ_of {n h m k : ByteArray} (e : (n, h) = (m, k)) : hdQ n h m k = true := by injection e with e1 e2; subst e1 e2; exact hdQ_yes _ _
theorem eqlHandle (n h m k : ByteArray) (W : World) : (binOp .eql 55 (hdA n h) (hdA m k)).run Try.prog W = .ok (.bool (hdQ n h m k)) W := by
  have D : hdQ n h m k = ((n.toList == m.toList) && (h.toList == k.toList)) := by
    unfold hdQ
    rw [bytes_eq, bytes_eq, Bool.eq_iff_iff]; simp
  rw [D]
  rw [run_eql_struct, run_equalIn_agg _ _ _ _ _ (by kernel_rfl) (by kernel_rfl)]
  by_cases e : n.toList = m.toList <;> by_cases f : h.toList = k.toList <;> simp [go_sem, Op.eqFields, e, f]
theorem neqHandle' (n h m k : ByteArray) (W : World) : (binOp .neq 55 (hdA n h) (hdA m k)).run Try.prog W = .ok (.bool (!hdQ n h m k)) W := by
  have D : hdQ n h m k = ((n.toList == m.toList) && (h.toList == k.toList)) := by
    unfold hdQ
    rw [bytes_eq, bytes_eq, Bool.eq_iff_iff]; simp
  rw [D]
  rw [run_neq_struct, run_equalIn_agg _ _ _ _ _ (by kernel_rfl) (by kernel_rfl)]
  by_cases e : n.toList = m.toList <;> by_cases f : h.toList = k.toList <;> simp [go_sem, Op.eqFields, e, f]
theorem ret_sb {v v' : Value} {a b : Bool} (hv : v = v') (h : a = b) : Ending.returned (.tuple #[v, .bool a]) = .returned (.tuple #[v', .bool b]) := by rw [h, hv]
theorem insL_ok {xs : List Hd} {p q : ByteArray} (h : hdOk xs) (hp : p.size ≤ 9223372036854775807) (hq : q.size ≤ 9223372036854775807) : hdOk (insL xs (p, q)) := by
  intro x hx
  unfold insL at hx
  rw [List.mem_append, List.mem_cons] at hx
  rcases hx with hx | rfl | hx
  · exact h x (List.takeWhile_subset _ hx)
  · exact ⟨hp, hq⟩
  · exact h x (List.dropWhile_subset _ hx)
end Go.Proofs.Ytoagpfdhbcgdcaa
