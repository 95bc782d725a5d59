/- The contracts of SignatureRight, the program's and the reference's. -/
import Derived.Test.YtcpepjnmjiffcaaSign
import Derived.Test.YtcpepjnmjiffcaaText
namespace Go.Proofs.Ytcpepjnmjiffcaa
open Go.RowKit
set_option linter.unusedVariables false

abbrev sigA (s : ByteArray) (m x g : Int) : Value := .agg #[.string s, .int .i64 m, .int .i64 x, .int .i64 g]
theorem digF_range {s : ByteArray} (h : textP s) : 0 ≤ digF s ∧ digF s < 999983 := by
  rw [digF_yes h]; have := digTo_lt s s.size; omega
/-- Whether a signature is right. -/
@[irreducible] def rightV (s : ByteArray) (m x g : Int) : Bool := textV s && (inB m 100 1000000 && (openF m x g == digF s % m))
theorem rightV_no1 {s : ByteArray} {m x g : Int} (h : textV s = false) : rightV s m x g = false := by unfold rightV; simp [h]
theorem rightV_no2 {s : ByteArray} {m x g : Int} (h : inB m 100 1000000 = false) : rightV s m x g = false := by unfold rightV; simp [h]
theorem rightV_yes {s : ByteArray} {m x g : Int} (h : textV s = true) (h' : inB m 100 1000000 = true) : rightV s m x g = (openF m x g == digF s % m) := by unfold rightV; simp [h, h']
theorem rightI_any (s : ByteArray) (m x g : Int) (w : World) (hs : s.size ≤ 9223372036854775807) : Calls Try.prog 35 #[sigA s m x g] w fun e' w' => e' = .returned (.bool (rightV s m x g)) ∧ Ext.of w w' := by
  go_enter Try.func35, Try.ntmps35
  cases ht : textV s with
  | false =>
    have R := hid_ (rightV_no1 (m := m) (x := x) (g := g) ht)
    go_wp2_with (first | (go_at_call 56; refine (textI_any _ _ hs).mono ?_; rintro e' w' ⟨rfl, rfl⟩) | (go_at_call 39; refine (within_any _ _ _ _).mono ?_; rintro e' w' ⟨rfl, rfl⟩))
    go_ret
    exact ⟨ret_bool R.out.symm, (Ext.of.refl _).alloc _⟩
  | true =>
    cases hi : inB m 100 1000000 with
    | false =>
      have R := hid_ (rightV_no2 (s := s) (x := x) (g := g) hi)
      go_wp2_with (first | (go_at_call 56; refine (textI_any _ _ hs).mono ?_; rintro e' w' ⟨rfl, rfl⟩) | (go_at_call 39; refine (within_any _ _ _ _).mono ?_; rintro e' w' ⟨rfl, rfl⟩))
      go_ret
      exact ⟨ret_bool R.out.symm, (Ext.of.refl _).alloc _⟩
    | true =>
      have R := hid_ (rightV_yes (x := x) (g := g) ht hi)
      have hm := inB_of hi
      have hd := digF_range (textV_iff.1 ht)
      have ht' := Int.tmod_eq_emod_of_nonneg (a := digF s) (b := m) hd.1
      have h0 : 0 ≤ digF s % m := Int.emod_nonneg _ (by omega)
      have h1 : digF s % m < m := Int.emod_lt_of_pos _ (by omega)
      have hx := IntWalk.i64_in (digF s % m) ⟨by omega, by omega⟩
      have hz : ¬ m = 0 := by omega
      have hz' : (m == 0) = false := by simpa using hz
      go_wp2_with (first | (go_at_call 56; refine (textI_any _ _ hs).mono ?_; rintro e' w' ⟨rfl, rfl⟩) | (go_at_call 39; refine (within_any _ _ _ _).mono ?_; rintro e' w' ⟨rfl, rfl⟩))
      generalize hW : w.alloc (Obj.cells #[Value.string s, Value.int IntKind.i64 m, Value.int IntKind.i64 x, Value.int IntKind.i64 g] 57) = W
      have hE : Ext.of w W := by rw [← hW]; exact (Ext.of.refl _).alloc _
      have hc : W.heap[w.heap.size]? = some (.cells #[Value.string s, Value.int IntKind.i64 m, Value.int IntKind.i64 x, Value.int IntKind.i64 g] 57 (0, 0)) := by rw [← hW]; exact alloc_new' rfl
      have d0 := more_cell (cell_of_row W w.heap.size 0 _ _ _ hc)
      have d1 := more_cell (cell_of_row W w.heap.size 1 _ _ _ hc)
      have d2 := more_cell (cell_of_row W w.heap.size 2 _ _ _ hc)
      have d3 := more_cell (cell_of_row W w.heap.size 3 _ _ _ hc)
      clear hc hW hi ht h0 h1 hd
      refine wp_region_more (by kernel_rfl) (by kernel_rfl) ?_
      repeat (go_big_quiet_step (first
        | exact more_same (openI_any _ _ _ _)
        | exact more_same (digI_any _ _ hs)))
      refine wpQuiet_nil ?_
      rintro _ ⟨y, rfl⟩
      go_wp2_with fail
      go_ret
      exact ⟨ret_bool R.out.symm, hE.trans ⟨y, rfl⟩⟩
theorem rightS_any (s : ByteArray) (m x g : Int) (w : World) (hs : s.size ≤ 9223372036854775807) : Calls Try.prog 66 #[sigA s m x g] w fun e' w' => e' = .returned (.bool (rightV s m x g)) ∧ Ext.of w w' := by
  go_enter Try.func66, Try.ntmps66
  cases ht : textV s with
  | false =>
    have R := hid_ (rightV_no1 (m := m) (x := x) (g := g) ht)
    go_wp2_with (first | (go_at_call 67; refine (textS_any _ _ hs).mono ?_; rintro e' w' ⟨rfl, rfl⟩) | (go_at_call 37; refine (l1In_any _ _ _ _).mono ?_; rintro e' w' ⟨rfl, rfl⟩))
    go_ret
    exact ⟨ret_bool R.out.symm, (Ext.of.refl _).alloc _⟩
  | true =>
    cases hi : inB m 100 1000000 with
    | false =>
      have R := hid_ (rightV_no2 (s := s) (x := x) (g := g) hi)
      go_wp2_with (first | (go_at_call 67; refine (textS_any _ _ hs).mono ?_; rintro e' w' ⟨rfl, rfl⟩) | (go_at_call 37; refine (l1In_any _ _ _ _).mono ?_; rintro e' w' ⟨rfl, rfl⟩))
      go_ret
      exact ⟨ret_bool R.out.symm, (Ext.of.refl _).alloc _⟩
    | true =>
      have R := hid_ (rightV_yes (x := x) (g := g) ht hi)
      have hm := inB_of hi
      have hd := digF_range (textV_iff.1 ht)
      have ht' := Int.tmod_eq_emod_of_nonneg (a := digF s) (b := m) hd.1
      have h0 : 0 ≤ digF s % m := Int.emod_nonneg _ (by omega)
      have h1 : digF s % m < m := Int.emod_lt_of_pos _ (by omega)
      have hx := IntWalk.i64_in (digF s % m) ⟨by omega, by omega⟩
      have hz : ¬ m = 0 := by omega
      have hz' : (m == 0) = false := by simpa using hz
      go_wp2_with (first | (go_at_call 67; refine (textS_any _ _ hs).mono ?_; rintro e' w' ⟨rfl, rfl⟩) | (go_at_call 37; refine (l1In_any _ _ _ _).mono ?_; rintro e' w' ⟨rfl, rfl⟩))
      generalize hW : w.alloc (Obj.cells #[Value.string s, Value.int IntKind.i64 m, Value.int IntKind.i64 x, Value.int IntKind.i64 g] 57) = W
      have hE : Ext.of w W := by rw [← hW]; exact (Ext.of.refl _).alloc _
      have hc : W.heap[w.heap.size]? = some (.cells #[Value.string s, Value.int IntKind.i64 m, Value.int IntKind.i64 x, Value.int IntKind.i64 g] 57 (0, 0)) := by rw [← hW]; exact alloc_new' rfl
      have d0 := more_cell (cell_of_row W w.heap.size 0 _ _ _ hc)
      have d1 := more_cell (cell_of_row W w.heap.size 1 _ _ _ hc)
      have d2 := more_cell (cell_of_row W w.heap.size 2 _ _ _ hc)
      have d3 := more_cell (cell_of_row W w.heap.size 3 _ _ _ hc)
      clear hc hW hi ht h0 h1 hd
      refine wp_region_more (by kernel_rfl) (by kernel_rfl) ?_
      repeat (go_big_quiet_step (first
        | exact more_same (openS_any _ _ _ _)
        | exact more_same (digS_any _ _ hs)))
      refine wpQuiet_nil ?_
      rintro _ ⟨y, rfl⟩
      go_wp2_with fail
      go_ret
      exact ⟨ret_bool R.out.symm, hE.trans ⟨y, rfl⟩⟩
end Go.Proofs.Ytcpepjnmjiffcaa
