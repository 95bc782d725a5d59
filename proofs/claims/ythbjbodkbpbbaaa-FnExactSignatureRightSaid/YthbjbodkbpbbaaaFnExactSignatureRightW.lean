/- The walk of FnExactSignatureRight: it returns true and turns nothing that was there. -/
import Derived.Test.YthbjbodkbpbbaaaToSigned
namespace Go.Proofs.Ythbjbodkbpbbaaa.fnExactSignatureRight
open Go.RowKit
set_option linter.unusedVariables false
theorem walk (s : ByteArray) (m x g : Int) (w : World) (w0 : s.size ≤ maxLen) (w1 : (Lit.int .i64 m).wf = true) (w2 : (Lit.int .i64 x).wf = true) (w3 : (Lit.int .i64 g).wf = true) :
    Calls Try.prog 4 #[sigA s m x g] w fun e' w' => e' = .returned (.bool true) ∧ Below w.heap.size w w' := by
  clear w1 w2 w3
  have hs : s.size ≤ 9223372036854775807 := by unfold maxLen at w0; omega
  go_enter Try.func4, Try.ntmps4
  go_wp2_with fail
  generalize hW : w.alloc (Obj.cells #[Value.string s, Value.int IntKind.i64 m, Value.int IntKind.i64 x, Value.int IntKind.i64 g] 29) = W
  have hE : Ext.of w W := by rw [← hW]; exact (Ext.of.refl _).alloc _
  have hc : W.heap[w.heap.size]? = some (.cells #[Value.string s, Value.int IntKind.i64 m, Value.int IntKind.i64 x, Value.int IntKind.i64 g] 29 (0, 0)) := by rw [← hW]; exact alloc_new' rfl
  have d0 := cell_of_row W w.heap.size 0 _ _ _ hc
  have d1 := cell_of_row W w.heap.size 1 _ _ _ hc
  have d2 := cell_of_row W w.heap.size 2 _ _ _ hc
  have d3 := cell_of_row W w.heap.size 3 _ _ _ hc
  clear hc hW
  by_cases h : s.size ≤ 1048576
  · refine (szSigned_yes s m x g 1048576 (by omega) h _).mono ?_
    rintro e' w1 ⟨rfl, x1⟩
    have hpos : decide ((1048576 : Int) - s.size < 0) = false := by simp; omega
    have f0 := x1.cell d0
    have f1 := x1.cell d1
    have f2 := x1.cell d2
    have f3 := x1.cell d3
    go_wp2_with fail
    refine (toSigned_any _ _ _ _ _).mono ?_
    rintro e' w2 ⟨rfl, x2⟩
    go_wp2_with fail
    refine (rightS_any _ _ _ _ _ hs).mono ?_
    rintro e' w3 ⟨rfl, x3⟩
    have i0 := (x2.trans x3).cell f0
    have i1 := (x2.trans x3).cell f1
    have i2 := (x2.trans x3).cell f2
    have i3 := (x2.trans x3).cell f3
    clear d0 d1 d2 d3 f0 f1 f2 f3
    go_wp2_with fail
    refine (toSigned_any _ _ _ _ _).mono ?_
    rintro e' w4 ⟨rfl, x4⟩
    go_wp2_with fail
    refine (rightI_any _ _ _ _ _ hs).mono ?_
    rintro e' w5 ⟨rfl, x5⟩
    have hX := hid_ (((((hE.trans x1).trans x2).trans x3).trans x4).trans x5)
    clear x1 x2 x3 x4 x5
    go_wp2_with fail
    go_ret
    exact ⟨rfl, hX.out.below⟩
  · refine (szSigned_no s m x g 1048576 (by omega) h w0 _).mono ?_
    rintro e' w1 ⟨rfl, x1⟩
    have hX := hid_ (hE.trans x1)
    clear x1
    go_wp2_with fail
    go_ret
    exact ⟨rfl, hX.out.below⟩
end Go.Proofs.Ythbjbodkbpbbaaa.fnExactSignatureRight
