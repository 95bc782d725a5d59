/- The contracts of SignedBy, the program's and the reference's. -/
import Derived.Test.YtcpepjnmjiffcaaMore
import Derived.Test.YtcpepjnmjiffcaaToSigned
namespace Go.Proofs.Ytcpepjnmjiffcaa
open Go.RowKit
set_option linter.unusedVariables false

/-- Whether a right signature is one by a valid key. -/
@[irreducible] noncomputable def byV (s : ByteArray) (m x g a b e : Int) : Bool := rightV s m x g && (keyV a b e && ((m == a * b) && (x == e)))
section
variable {s : ByteArray} {m x g a b e : Int}
theorem byV_no1 (h : rightV s m x g = false) : byV s m x g a b e = false := by unfold byV; simp [h]
theorem byV_no2 (h : keyV a b e = false) : byV s m x g a b e = false := by unfold byV; simp [h]
theorem byV_no3 (h : (m == a * b) = false) : byV s m x g a b e = false := by unfold byV; rw [h]; simp
theorem byV_yes (h : rightV s m x g = true) (h' : keyV a b e = true) (h'' : (m == a * b) = true) : byV s m x g a b e = (x == e) := by unfold byV; rw [h, h', h'']; rfl
theorem right_mod (h : rightV s m x g = true) : 100 ≤ m := by
  cases hi : inB m 100 1000000 with
  | false => rw [rightV_no2 hi] at h; cases h
  | true => exact (inB_of hi).1
end
theorem byI_any (s : ByteArray) (m x g a b e : Int) (w : World) (hs : s.size ≤ 9223372036854775807) : Calls Try.prog 34 #[sigA s m x g, keyA a b e] w fun e' w' => e' = .returned (.bool (byV s m x g a b e)) ∧ Ext.of w w' := by
  go_enter Try.func34, Try.ntmps34
  go_wp2_with fail
  generalize hW : (w.alloc (Obj.cells #[Value.string s, Value.int IntKind.i64 m, Value.int IntKind.i64 x, Value.int IntKind.i64 g] 57)).alloc (Obj.cells #[Value.int IntKind.i64 a, Value.int IntKind.i64 b, Value.int IntKind.i64 e] 30) = W
  have hE : Ext.of w W := by rw [← hW]; exact ((Ext.of.refl _).alloc _).alloc _
  have hc : W.heap[w.heap.size]? = some (.cells #[Value.string s, Value.int IntKind.i64 m, Value.int IntKind.i64 x, Value.int IntKind.i64 g] 57 (0, 0)) := by rw [← hW]; exact alloc_old (alloc_new' rfl)
  have hk : W.heap[w.heap.size + 1]? = some (.cells #[Value.int IntKind.i64 a, Value.int IntKind.i64 b, Value.int IntKind.i64 e] 30 (0, 0)) := by rw [← hW]; exact alloc_new' (by simp)
  have d0 := more_cell (cell_of_row W w.heap.size 0 _ _ _ hc)
  have d1 := more_cell (cell_of_row W w.heap.size 1 _ _ _ hc)
  have d2 := more_cell (cell_of_row W w.heap.size 2 _ _ _ hc)
  have d3 := more_cell (cell_of_row W w.heap.size 3 _ _ _ hc)
  have k0 := more_cell (cell_of_row W (w.heap.size + 1) 0 _ _ _ hk)
  have k1 := more_cell (cell_of_row W (w.heap.size + 1) 1 _ _ _ hk)
  have k2 := more_cell (cell_of_row W (w.heap.size + 1) 2 _ _ _ hk)
  clear hc hk hW
  have cR0 := fun w' => rightI_any s m x g w' hs
  have cK0 := fun w' => keyI_any a b e w'
  have cM0 := fun w' => modI_any a b e w'
  cases hr : rightV s m x g with
  | false =>
    have cR : ∀ w', Calls Try.prog 35 #[sigA s m x g] w' fun e' w'' => e' = .returned (.bool false) ∧ Ext.of w' w'' := fun w' => (cR0 w').mono fun _ _ h => by rw [hr] at h; exact h
    have cK := cK0
    have cM := cM0
    have B := hid_ (byV_no1 (a := a) (b := b) (e := e) hr)
    refine wp_region_more (by kernel_rfl) (by kernel_rfl) ?_
    repeat (go_big_quiet_step (first
      | exact more_of (cR _)
      | exact more_of (cK _)
      | exact more_of (cM _)))
    refine wpQuiet_nil ?_
    rintro _ ⟨y, rfl⟩
    go_wp2_with fail
    go_ret
    exact ⟨ret_bool B.out.symm, hE.trans ⟨y, rfl⟩⟩
  | true =>
    have cR : ∀ w', Calls Try.prog 35 #[sigA s m x g] w' fun e' w'' => e' = .returned (.bool true) ∧ Ext.of w' w'' := fun w' => (cR0 w').mono fun _ _ h => by rw [hr] at h; exact h
    cases hv : keyV a b e with
    | false =>
      have cK : ∀ w', Calls Try.prog 40 #[keyA a b e] w' fun e' w'' => e' = .returned (.bool false) ∧ Ext.of w' w'' := fun w' => (cK0 w').mono fun _ _ h => by rw [hv] at h; exact h
      have B := hid_ (byV_no2 (s := s) (m := m) (x := x) (g := g) hv)
      have cM : ∀ w', Calls Try.prog 55 #[keyA a b e] w' fun e' w'' => e' = .returned (.int .i64 (-1)) ∧ Ext.of w' w'' := fun w' => (cM0 w').mono fun _ _ h => by rw [modF_no hv] at h; exact h
      refine wp_region_more (by kernel_rfl) (by kernel_rfl) ?_
      repeat (go_big_quiet_step (first
        | exact more_of (cR _)
        | exact more_of (cK _)
        | exact more_of (cM _)))
      refine wpQuiet_nil ?_
      rintro _ ⟨y, rfl⟩
      go_wp2_with fail
      go_ret
      exact ⟨ret_bool B.out.symm, hE.trans ⟨y, rfl⟩⟩
    | true =>
      have cK : ∀ w', Calls Try.prog 40 #[keyA a b e] w' fun e' w'' => e' = .returned (.bool true) ∧ Ext.of w' w'' := fun w' => (cK0 w').mono fun _ _ h => by rw [hv] at h; exact h
      have cM : ∀ w', Calls Try.prog 55 #[keyA a b e] w' fun e' w'' => e' = .returned (.int .i64 (a * b)) ∧ Ext.of w' w'' := fun w' => (cM0 w').mono fun _ _ h => by rw [modF_yes hv] at h; exact h
      cases hm : (m == a * b) with
      | false =>
        have B := hid_ (byV_no3 (s := s) (x := x) (g := g) (e := e) hm)
        have hm' : (a * b == m) = false := by rw [beq_eq_false_iff_ne] at hm ⊢; exact fun h => hm h.symm
        refine wp_region_more (by kernel_rfl) (by kernel_rfl) ?_
        repeat (go_big_quiet_step (first
          | exact more_of (cR _)
          | exact more_of (cK _)
          | exact more_of (cM _)))
        refine wpQuiet_nil ?_
        rintro _ ⟨y, rfl⟩
        go_wp2_with fail
        go_ret
        exact ⟨ret_bool B.out.symm, hE.trans ⟨y, rfl⟩⟩
      | true =>
        have hm' : (a * b == m) = true := by rw [beq_iff_eq] at hm ⊢; exact hm.symm
        have B := hid_ (byV_yes (e := e) hr hv hm)
        have hx' : (e == x) = (x == e) := by rw [Bool.eq_iff_iff, beq_iff_eq, beq_iff_eq]; exact ⟨fun h => h.symm, fun h => h.symm⟩
        refine wp_region_more (by kernel_rfl) (by kernel_rfl) ?_
        repeat (go_big_quiet_step (first
          | exact more_of (cR _)
          | exact more_of (cK _)
          | exact more_of (cM _)))
        refine wpQuiet_nil ?_
        rintro _ ⟨y, rfl⟩
        go_wp2_with fail
        go_ret
        exact ⟨ret_bool (by first | exact B.out.symm | exact hx'.trans B.out.symm), hE.trans ⟨y, rfl⟩⟩
theorem byS_any (s : ByteArray) (m x g a b e : Int) (w : World) (hs : s.size ≤ 9223372036854775807) : Calls Try.prog 51 #[sigA s m x g, keyA a b e] w fun e' w' => e' = .returned (.bool (byV s m x g a b e)) ∧ Ext.of w w' := by
  go_enter Try.func51, Try.ntmps51
  go_wp2_with fail
  generalize hW : (w.alloc (Obj.cells #[Value.string s, Value.int IntKind.i64 m, Value.int IntKind.i64 x, Value.int IntKind.i64 g] 57)).alloc (Obj.cells #[Value.int IntKind.i64 a, Value.int IntKind.i64 b, Value.int IntKind.i64 e] 30) = W
  have hE : Ext.of w W := by rw [← hW]; exact ((Ext.of.refl _).alloc _).alloc _
  have hc : W.heap[w.heap.size]? = some (.cells #[Value.string s, Value.int IntKind.i64 m, Value.int IntKind.i64 x, Value.int IntKind.i64 g] 57 (0, 0)) := by rw [← hW]; exact alloc_old (alloc_new' rfl)
  have hk : W.heap[w.heap.size + 1]? = some (.cells #[Value.int IntKind.i64 a, Value.int IntKind.i64 b, Value.int IntKind.i64 e] 30 (0, 0)) := by rw [← hW]; exact alloc_new' (by simp)
  have d0 := more_cell (cell_of_row W w.heap.size 0 _ _ _ hc)
  have d1 := more_cell (cell_of_row W w.heap.size 1 _ _ _ hc)
  have d2 := more_cell (cell_of_row W w.heap.size 2 _ _ _ hc)
  have d3 := more_cell (cell_of_row W w.heap.size 3 _ _ _ hc)
  have k0 := more_cell (cell_of_row W (w.heap.size + 1) 0 _ _ _ hk)
  have k1 := more_cell (cell_of_row W (w.heap.size + 1) 1 _ _ _ hk)
  have k2 := more_cell (cell_of_row W (w.heap.size + 1) 2 _ _ _ hk)
  clear hc hk hW
  have cR0 := fun w' => rightS_any s m x g w' hs
  have cK0 := fun w' => keyS_any a b e w'
  have cM0 := fun w' => modS_any a b e w'
  cases hr : rightV s m x g with
  | false =>
    have cR : ∀ w', Calls Try.prog 66 #[sigA s m x g] w' fun e' w'' => e' = .returned (.bool false) ∧ Ext.of w' w'' := fun w' => (cR0 w').mono fun _ _ h => by rw [hr] at h; exact h
    have cK := cK0
    have cM := cM0
    have B := hid_ (byV_no1 (a := a) (b := b) (e := e) hr)
    refine wp_region_more (by kernel_rfl) (by kernel_rfl) ?_
    repeat (go_big_quiet_step (first
      | exact more_of (cR _)
      | exact more_of (cK _)
      | exact more_of (cM _)))
    refine wpQuiet_nil ?_
    rintro _ ⟨y, rfl⟩
    go_wp2_with fail
    go_ret
    exact ⟨ret_bool B.out.symm, hE.trans ⟨y, rfl⟩⟩
  | true =>
    have cR : ∀ w', Calls Try.prog 66 #[sigA s m x g] w' fun e' w'' => e' = .returned (.bool true) ∧ Ext.of w' w'' := fun w' => (cR0 w').mono fun _ _ h => by rw [hr] at h; exact h
    cases hv : keyV a b e with
    | false =>
      have cK : ∀ w', Calls Try.prog 36 #[keyA a b e] w' fun e' w'' => e' = .returned (.bool false) ∧ Ext.of w' w'' := fun w' => (cK0 w').mono fun _ _ h => by rw [hv] at h; exact h
      have B := hid_ (byV_no2 (s := s) (m := m) (x := x) (g := g) hv)
      have cM : ∀ w', Calls Try.prog 38 #[keyA a b e] w' fun e' w'' => e' = .returned (.int .i64 (-1)) ∧ Ext.of w' w'' := fun w' => (cM0 w').mono fun _ _ h => by rw [modF_no hv] at h; exact h
      have hq := modF_no hv
      have hm := right_mod hr
      have hn : ((-1 : Int) == m) = false := by simp; omega
      clear hm
      refine wp_region_more (by kernel_rfl) (by kernel_rfl) ?_
      repeat (go_big_quiet_step (first
        | exact more_of (cR _)
        | exact more_of (cK _)
        | exact more_of (cM _)))
      refine wpQuiet_nil ?_
      rintro _ ⟨y, rfl⟩
      go_wp2_with fail
      go_ret
      exact ⟨ret_bool B.out.symm, hE.trans ⟨y, rfl⟩⟩
    | true =>
      have cK : ∀ w', Calls Try.prog 36 #[keyA a b e] w' fun e' w'' => e' = .returned (.bool true) ∧ Ext.of w' w'' := fun w' => (cK0 w').mono fun _ _ h => by rw [hv] at h; exact h
      have cM : ∀ w', Calls Try.prog 38 #[keyA a b e] w' fun e' w'' => e' = .returned (.int .i64 (a * b)) ∧ Ext.of w' w'' := fun w' => (cM0 w').mono fun _ _ h => by rw [modF_yes hv] at h; exact h
      cases hm : (m == a * b) with
      | false =>
        have B := hid_ (byV_no3 (s := s) (x := x) (g := g) (e := e) hm)
        have hm' : (a * b == m) = false := by rw [beq_eq_false_iff_ne] at hm ⊢; exact fun h => hm h.symm
        refine wp_region_more (by kernel_rfl) (by kernel_rfl) ?_
        repeat (go_big_quiet_step (first
          | exact more_of (cR _)
          | exact more_of (cK _)
          | exact more_of (cM _)))
        refine wpQuiet_nil ?_
        rintro _ ⟨y, rfl⟩
        go_wp2_with fail
        go_ret
        exact ⟨ret_bool B.out.symm, hE.trans ⟨y, rfl⟩⟩
      | true =>
        have hm' : (a * b == m) = true := by rw [beq_iff_eq] at hm ⊢; exact hm.symm
        have B := hid_ (byV_yes (e := e) hr hv hm)
        have hx' : (e == x) = (x == e) := by rw [Bool.eq_iff_iff, beq_iff_eq, beq_iff_eq]; exact ⟨fun h => h.symm, fun h => h.symm⟩
        refine wp_region_more (by kernel_rfl) (by kernel_rfl) ?_
        repeat (go_big_quiet_step (first
          | exact more_of (cR _)
          | exact more_of (cK _)
          | exact more_of (cM _)))
        refine wpQuiet_nil ?_
        rintro _ ⟨y, rfl⟩
        go_wp2_with fail
        go_ret
        exact ⟨ret_bool (by first | exact B.out.symm | exact hx'.trans B.out.symm), hE.trans ⟨y, rfl⟩⟩
end Go.Proofs.Ytcpepjnmjiffcaa
