/- The contracts of rotations' turns: copies, equality, the same primes. -/
import Derived.Test.YtcpepjnmjiffcaaSign
import Derived.Test.YtcpepjnmjiffcaaToKey
import Derived.Test.YtcpepjnmjiffcaaFlat
import Derived.Laws.StructEq
namespace Go.Proofs.Ytcpepjnmjiffcaa
open Go.RowKit
set_option linter.unusedVariables false
set_option linter.unusedSimpArgs false

abbrev tnA (d a b e : Int) : Value := .agg #[.int .i64 d, .int .i64 a, .int .i64 b, .int .i64 e]
@[irreducible] def keyQ (a b e a' b' e' : Int) : Bool := decide ((a, b, e) = (a', b', e'))
@[irreducible] def tnQ (d a b e d' a' b' e' : Int) : Bool := decide ((d, a, b, e) = (d', a', b', e'))
theorem keyQ_eq (a b e a' b' e' : Int) : keyQ a b e a' b' e' = ((a == a') && ((b == b') && (e == e'))) := by
  unfold keyQ; rw [Bool.eq_iff_iff]; simp
theorem tnQ_eq (d a b e d' a' b' e' : Int) : tnQ d a b e d' a' b' e' = ((d == d') && keyQ a b e a' b' e') := by
  rw [keyQ_eq]; unfold tnQ; rw [Bool.eq_iff_iff]; simp
theorem tnQ_yes (d a b e : Int) : tnQ d a b e d a b e = true := by unfold tnQ; simp
theorem tnQ_no {d a b e d' a' b' e' : Int} (h : ¬ (d, a, b, e) = (d', a', b', e')) : tnQ d a b e d' a' b' e' = false := by unfold tnQ; exact decide_eq_false h
theorem eqSignKey_any (a b e a' b' e' : Int) (w : World) : Calls Try.prog 18 #[keyA a b e, keyA a' b' e'] w fun e1 w' => e1 = .returned (.bool (keyQ a b e a' b' e')) ∧ Ext.of w w' := by
  rw [keyQ_eq]
  cases x1 : (a == a') <;> cases x2 : (b == b') <;> cases x3 : (e == e')
  all_goals
    go_enter Try.func18, Try.ntmps18
    go_wp2
    go_ret
    exact ⟨rfl, ((Ext.of.refl _).alloc _).alloc _⟩
theorem eqTurn_any (d a b e d' a' b' e' : Int) (w : World) : Calls Try.prog 42 #[tnA d a b e, tnA d' a' b' e'] w fun e1 w' => e1 = .returned (.bool (tnQ d a b e d' a' b' e')) ∧ Ext.of w w' := by
  rw [tnQ_eq]
  cases x1 : (d == d') with
  | false =>
    go_enter Try.func42, Try.ntmps42
    go_wp2_with (go_at_call 18; refine (eqSignKey_any _ _ _ _ _ _ _).mono ?_; rintro e1 w' ⟨rfl, hX⟩)
    go_ret
    exact ⟨rfl, ((Ext.of.refl _).alloc _).alloc _⟩
  | true =>
    cases x2 : keyQ a b e a' b' e'
    all_goals
      go_enter Try.func42, Try.ntmps42
      go_wp2_with (go_at_call 18; refine (eqSignKey_any _ _ _ _ _ _ _).mono ?_; rintro e1 w' ⟨rfl, hX⟩)
      go_ret
      exact ⟨rfl, (((Ext.of.refl _).alloc _).alloc _).trans hX⟩
theorem toTurn_any (d a b e : Int) (w : World) : Calls Try.prog 23 #[tnA d a b e] w fun e' w' => e' = .returned (tnA d a b e) ∧ Ext.of w w' := by
  go_enter Try.func23, Try.ntmps23
  go_wp2_with fail
  generalize hW : ((w.alloc (Obj.cells #[Value.int IntKind.i64 d, Value.int IntKind.i64 a, Value.int IntKind.i64 b, Value.int IntKind.i64 e] 45)).alloc (Obj.cells #[Value.int IntKind.i64 0, Value.int IntKind.i64 0, Value.int IntKind.i64 0, Value.int IntKind.i64 0] 39)).alloc (Obj.cells #[Value.int IntKind.i64 d, Value.int IntKind.i64 0, Value.int IntKind.i64 0, Value.int IntKind.i64 0] 39) = W
  have hE : Ext.of w W := by rw [← hW]; exact (((Ext.of.refl _).alloc _).alloc _).alloc _
  have h1 : W.heap[w.heap.size + 1]? = some (.cells #[.int .i64 0, .int .i64 0, .int .i64 0, .int .i64 0] 39 (0, 0)) := by rw [← hW]; exact alloc_old (alloc_new' (by simp))
  have h2 : W.heap[w.heap.size + 2]? = some (.cells #[.int .i64 d, .int .i64 0, .int .i64 0, .int .i64 0] 39 (0, 0)) := by rw [← hW]; exact alloc_new' (by simp)
  clear hW
  refine (toKey_any a b e W).mono ?_
  rintro e' w1 ⟨rfl, x1⟩
  have g1 := (x1.block (Array.getElem?_eq_some_iff.1 h1).1).trans h1
  have g2 := (x1.block (Array.getElem?_eq_some_iff.1 h2).1).trans h2
  have hE1 := hE.trans x1
  clear hE x1 h1 h2
  have c0 := cell_of_row w1 (w.heap.size + 1) 0 _ _ _ g1
  have c1 := cell_of_row w1 (w.heap.size + 1) 1 _ _ _ g1
  have c2 := cell_of_row w1 (w.heap.size + 1) 2 _ _ _ g1
  have c3 := cell_of_row w1 (w.heap.size + 1) 3 _ _ _ g1
  have d0 := cell_of_row w1 (w.heap.size + 2) 0 _ _ _ g2
  have d1 := cell_of_row w1 (w.heap.size + 2) 1 _ _ _ g2
  have d2 := cell_of_row w1 (w.heap.size + 2) 2 _ _ _ g2
  have d3 := cell_of_row w1 (w.heap.size + 2) 3 _ _ _ g2
  have fc0 := frozen_of_row w1 (w.heap.size + 1) 0 _ _ g1
  have fc1 := frozen_of_row w1 (w.heap.size + 1) 1 _ _ g1
  have fc2 := frozen_of_row w1 (w.heap.size + 1) 2 _ _ g1
  have fc3 := frozen_of_row w1 (w.heap.size + 1) 3 _ _ g1
  have fd1 := frozen_of_row w1 (w.heap.size + 2) 1 _ _ g2
  have fd2 := frozen_of_row w1 (w.heap.size + 2) 2 _ _ g2
  have fd3 := frozen_of_row w1 (w.heap.size + 2) 3 _ _ g2
  clear g1 g2
  go_wp2
  refine bodyPost_ret (v := tnA d a b e) (by simp [results, Try.results23, go_sem, c0, c1, c2, c3]) rfl ⟨rfl, Ext.of_below ?_⟩
  exact ((((((hE1.below.setCell (by dsimp; omega) _).setCell (by dsimp; omega) _).setCell (by dsimp; omega) _).setCell (by dsimp; omega) _).setCell (by dsimp; omega) _).setCell (by dsimp; omega) _).setCell (by dsimp; omega) _
/-- The same two primes, in whichever order. -/
@[irreducible] def sameP (a b c d : Int) : Bool := ((a == c) && (b == d)) || ((a == d) && (b == c))
theorem same_any (a b e c d f : Int) (w : World) : Calls Try.prog 41 #[keyA a b e, keyA c d f] w fun e' w' => e' = .returned (.bool (sameP a b c d)) ∧ Ext.of w w' := by
  have D : sameP a b c d = (((a == c) && (b == d)) || ((a == d) && (b == c))) := by unfold sameP; rfl
  rw [D]
  cases x1 : (a == c) <;> cases x2 : (b == d) <;> cases x3 : (a == d) <;> cases x4 : (b == c)
  all_goals
    go_enter Try.func41, Try.ntmps41
    go_wp2
    go_ret
    exact ⟨rfl, ((Ext.of.refl _).alloc _).alloc _⟩
def tnOk (xs : List (Int × Int × Int × Int)) : Prop := ∀ x ∈ xs, True
theorem neqTurn (d a b e d' a' b' e' : Int) (W : World) : (binOp .neq 39 (tnA d a b e) (tnA d' a' b' e')).run Try.prog W = .ok (.bool (!tnQ d a b e d' a' b' e')) W := by
  rw [tnQ_eq, keyQ_eq, run_neq_struct, run_equalIn_agg _ _ _ _ _ (by kernel_rfl) (by kernel_rfl)]
  by_cases x0 : d = d' <;> by_cases x1 : a = a' <;> by_cases x2 : b = b' <;> by_cases x3 : e = e' <;> simp [go_sem, Op.eqFields, x0, x1, x2, x3]
end Go.Proofs.Ytcpepjnmjiffcaa
