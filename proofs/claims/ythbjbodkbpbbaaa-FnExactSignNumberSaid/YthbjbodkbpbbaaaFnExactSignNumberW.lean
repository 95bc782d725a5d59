/- The walk of FnExactSignNumber: it returns true and turns nothing that was there. -/
import Derived.Test.YthbjbodkbpbbaaaToKey
import Derived.Test.YthbjbodkbpbbaaaSign
namespace Go.Proofs.Ythbjbodkbpbbaaa.fnExactSignNumber
open Go.RowKit
set_option linter.unusedVariables false
theorem walk (a b e n : Int) (w : World) (w0 : (Lit.int .i64 a).wf = true) (w1 : (Lit.int .i64 b).wf = true) (w2 : (Lit.int .i64 e).wf = true) (w3 : (Lit.int .i64 n).wf = true) :
    Calls Try.prog 6 #[keyA a b e, .int .i64 n] w fun e' w' => e' = .returned (.bool true) ∧ Below w.heap.size w w' := by
  clear w0 w1 w2 w3
  go_enter Try.func6, Try.ntmps6
  go_wp2_with fail
  generalize hW : w.alloc (Obj.cells #[Value.int IntKind.i64 a, Value.int IntKind.i64 b, Value.int IntKind.i64 e] 39) = W
  have hE : Ext.of w W := by rw [← hW]; exact (Ext.of.refl _).alloc _
  have hc : W.heap[w.heap.size]? = some (.cells #[Value.int IntKind.i64 a, Value.int IntKind.i64 b, Value.int IntKind.i64 e] 39 (0, 0)) := by rw [← hW]; exact alloc_new' rfl
  have d0 := cell_of_row W w.heap.size 0 _ _ _ hc
  have d1 := cell_of_row W w.heap.size 1 _ _ _ hc
  have d2 := cell_of_row W w.heap.size 2 _ _ _ hc
  clear hc hW
  refine (toKey_any _ _ _ _).mono ?_
  rintro e' w1 ⟨rfl, x1⟩
  go_wp2_with fail
  refine (signS_any _ _ _ _ _).mono ?_
  rintro e' w2 ⟨rfl, x2⟩
  have f0 := (x1.trans x2).cell d0
  have f1 := (x1.trans x2).cell d1
  have f2 := (x1.trans x2).cell d2
  clear d0 d1 d2
  go_wp2_with fail
  refine (toKey_any _ _ _ _).mono ?_
  rintro e' w3 ⟨rfl, x3⟩
  go_wp2_with fail
  refine (signI_any _ _ _ _ _).mono ?_
  rintro e' w4 ⟨rfl, x4⟩
  have hX := hid_ ((((hE.trans x1).trans x2).trans x3).trans x4)
  clear x1 x2 x3 x4
  go_wp2_with fail
  go_ret
  exact ⟨rfl, hX.out.below⟩
end Go.Proofs.Ythbjbodkbpbbaaa.fnExactSignNumber
