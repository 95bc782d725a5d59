/- The walk of FnExactSignedBy: it returns true and turns nothing that was there. -/
import Derived.Test.YthbjbodkbpbbaaaBy
namespace Go.Proofs.Ythbjbodkbpbbaaa.fnExactSignedBy
open Go.RowKit
set_option linter.unusedVariables false
theorem walk (s : ByteArray) (m x g a b e : Int) (w : World) (w0 : s.size ≤ maxLen) (w1 : (Lit.int .i64 m).wf = true) (w2 : (Lit.int .i64 x).wf = true) (w3 : (Lit.int .i64 g).wf = true)
    (w4 : (Lit.int .i64 a).wf = true) (w5 : (Lit.int .i64 b).wf = true) (w6 : (Lit.int .i64 e).wf = true) :
    Calls Try.prog 10 #[sigA s m x g, keyA a b e] w fun e' w' => e' = .returned (.bool true) ∧ Below w.heap.size w w' := by
  clear w1 w2 w3 w4 w5 w6
  have hs : s.size ≤ 9223372036854775807 := by unfold maxLen at w0; omega
  go_enter Try.func10, Try.ntmps10
  go_wp2_with fail
  generalize hW : (w.alloc (Obj.cells #[Value.string s, Value.int IntKind.i64 m, Value.int IntKind.i64 x, Value.int IntKind.i64 g] 29)).alloc (Obj.cells #[Value.int IntKind.i64 a, Value.int IntKind.i64 b, Value.int IntKind.i64 e] 39) = W
  have hE : Ext.of w W := by rw [← hW]; exact ((Ext.of.refl _).alloc _).alloc _
  have hc : W.heap[w.heap.size]? = some (.cells #[Value.string s, Value.int IntKind.i64 m, Value.int IntKind.i64 x, Value.int IntKind.i64 g] 29 (0, 0)) := by rw [← hW]; exact alloc_old (alloc_new' rfl)
  have hk : W.heap[w.heap.size + 1]? = some (.cells #[Value.int IntKind.i64 a, Value.int IntKind.i64 b, Value.int IntKind.i64 e] 39 (0, 0)) := by rw [← hW]; exact alloc_new' (by simp)
  have d0 := cell_of_row W w.heap.size 0 _ _ _ hc
  have d1 := cell_of_row W w.heap.size 1 _ _ _ hc
  have d2 := cell_of_row W w.heap.size 2 _ _ _ hc
  have d3 := cell_of_row W w.heap.size 3 _ _ _ hc
  have k0 := cell_of_row W (w.heap.size + 1) 0 _ _ _ hk
  have k1 := cell_of_row W (w.heap.size + 1) 1 _ _ _ hk
  have k2 := cell_of_row W (w.heap.size + 1) 2 _ _ _ hk
  clear hc hk hW
  by_cases h : s.size ≤ 1048576
  · refine (szSigned_yes s m x g 1048576 (by omega) h _).mono ?_
    rintro e' w1 ⟨rfl, x1⟩
    have hpos : decide ((1048576 : Int) - s.size < 0) = false := by simp; omega
    have fd0 := more_cell (x1.cell d0)
    have fd1 := more_cell (x1.cell d1)
    have fd2 := more_cell (x1.cell d2)
    have fd3 := more_cell (x1.cell d3)
    have fk0 := more_cell (x1.cell k0)
    have fk1 := more_cell (x1.cell k1)
    have fk2 := more_cell (x1.cell k2)
    clear d0 d1 d2 d3 k0 k1 k2
    go_wp2_with fail
    refine wp_region_more (by kernel_rfl) (by kernel_rfl) ?_
    repeat (go_big_quiet_step (first
      | exact more_of (toSigned_any _ _ _ _ _)
      | exact more_of (toKey_any _ _ _ _)
      | exact more_of (byS_any _ _ _ _ _ _ _ _ hs)
      | exact more_of (byI_any _ _ _ _ _ _ _ _ hs)))
    refine wpQuiet_nil ?_
    rintro _ ⟨y, rfl⟩
    have gd0 := more_cell (fd0 y)
    have gd1 := more_cell (fd1 y)
    have gd2 := more_cell (fd2 y)
    have gd3 := more_cell (fd3 y)
    have gk0 := more_cell (fk0 y)
    have gk1 := more_cell (fk1 y)
    have gk2 := more_cell (fk2 y)
    clear fd0 fd1 fd2 fd3 fk0 fk1 fk2
    generalize hV : More w1 y = V at *
    have hEV : Ext.of w V := by rw [← hV]; exact (hE.trans x1).trans ⟨y, rfl⟩
    clear hV
    go_wp2_with fail
    refine wp_region_more (by kernel_rfl) (by kernel_rfl) ?_
    repeat (go_big_quiet_step (first
      | exact more_of (toSigned_any _ _ _ _ _)
      | exact more_of (toKey_any _ _ _ _)
      | exact more_of (byS_any _ _ _ _ _ _ _ _ hs)
      | exact more_of (byI_any _ _ _ _ _ _ _ _ hs)))
    refine wpQuiet_nil ?_
    rintro _ ⟨z, rfl⟩
    have hX := hid_ (hEV.trans ⟨z, rfl⟩)
    go_wp2_with fail
    go_ret
    exact ⟨rfl, hX.out.below⟩
  · refine (szSigned_no s m x g 1048576 (by omega) h w0 _).mono ?_
    rintro e' w1 ⟨rfl, x1⟩
    have hX := hid_ (hE.trans x1)
    clear x1
    go_wp2_with fail
    go_ret
    exact ⟨rfl, hX.out.below⟩
end Go.Proofs.Ythbjbodkbpbbaaa.fnExactSignedBy
