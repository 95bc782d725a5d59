/- The contracts of a key's modulus, and of the number that is signed. -/
import Derived.Test.YtcpepjnmjiffcaaKeyI
namespace Go.Proofs.Ytcpepjnmjiffcaa
open Go.RowKit
set_option linter.unusedVariables false

/-- The modulus of a key. -/
@[irreducible] noncomputable def modF (a b e : Int) : Int := if keyV a b e = true then a * b else -1
theorem modF_yes {a b e : Int} (h : keyV a b e = true) : modF a b e = a * b := by unfold modF; rw [if_pos h]
theorem modF_no {a b e : Int} (h : keyV a b e = false) : modF a b e = -1 := by unfold modF; rw [h]; rfl
theorem mod_bound {a b e : Int} (h : keyP a b e) : 121 ≤ a * b ∧ a * b ≤ 994009 := by
  obtain ⟨ha, hb, _⟩ := h
  have h1 : 11 * 11 ≤ a * b := Int.mul_le_mul (by omega) (by omega) (by omega) (by omega)
  have h2 : a * b ≤ 997 * 997 := Int.mul_le_mul (by omega) (by omega) (by omega) (by omega)
  omega
theorem modI_any (a b e : Int) (w : World) : Calls Try.prog 55 #[keyA a b e] w fun e' w' => e' = .returned (.int .i64 (modF a b e)) ∧ Ext.of w w' := by
  go_enter Try.func55, Try.ntmps55
  cases hv : keyV a b e with
  | false =>
    have hm := hid_ (modF_no hv)
    go_wp2_with (go_at_call 40; refine (keyI_any _ _ _ _).mono ?_; rintro e' w' ⟨rfl, hX⟩)
    go_ret
    exact ⟨ret_i64 hm.out.symm, ((Ext.of.refl _).alloc _).trans hX⟩
  | true =>
    have hm := hid_ (modF_yes hv)
    have hb := mod_bound (keyV_iff.1 hv)
    have hx := IntWalk.i64_in (a * b) ⟨by omega, by omega⟩
    go_wp2_with fail
    generalize hW : w.alloc (Obj.cells #[Value.int IntKind.i64 a, Value.int IntKind.i64 b, Value.int IntKind.i64 e] 30) = W
    have hE : Ext.of w W := by rw [← hW]; exact (Ext.of.refl _).alloc _
    have hc : W.heap[w.heap.size]? = some (.cells #[Value.int IntKind.i64 a, Value.int IntKind.i64 b, Value.int IntKind.i64 e] 30 (0, 0)) := by rw [← hW]; exact alloc_new' rfl
    have d0 := more_cell (cell_of_row W w.heap.size 0 _ _ _ hc)
    have d1 := more_cell (cell_of_row W w.heap.size 1 _ _ _ hc)
    refine (keyI_any _ _ _ _).mono ?_
    rintro e' w' ⟨rfl, x, rfl⟩
    go_wp2_with fail
    go_ret
    exact ⟨ret_i64 hm.out.symm, hE.trans ⟨x, rfl⟩⟩
theorem modS_any (a b e : Int) (w : World) : Calls Try.prog 38 #[keyA a b e] w fun e' w' => e' = .returned (.int .i64 (modF a b e)) ∧ Ext.of w w' := by
  go_enter Try.func38, Try.ntmps38
  cases hv : keyV a b e with
  | false =>
    have hm := hid_ (modF_no hv)
    go_wp2_with (go_at_call 36; refine (keyS_any _ _ _ _).mono ?_; rintro e' w' ⟨rfl, hX⟩)
    go_ret
    exact ⟨ret_i64 hm.out.symm, ((Ext.of.refl _).alloc _).trans hX⟩
  | true =>
    have hm := hid_ (modF_yes hv)
    have hb := mod_bound (keyV_iff.1 hv)
    have hx := IntWalk.i64_in (a * b) ⟨by omega, by omega⟩
    go_wp2_with fail
    generalize hW : w.alloc (Obj.cells #[Value.int IntKind.i64 a, Value.int IntKind.i64 b, Value.int IntKind.i64 e] 30) = W
    have hE : Ext.of w W := by rw [← hW]; exact (Ext.of.refl _).alloc _
    have hc : W.heap[w.heap.size]? = some (.cells #[Value.int IntKind.i64 a, Value.int IntKind.i64 b, Value.int IntKind.i64 e] 30 (0, 0)) := by rw [← hW]; exact alloc_new' rfl
    have d0 := more_cell (cell_of_row W w.heap.size 0 _ _ _ hc)
    have d1 := more_cell (cell_of_row W w.heap.size 1 _ _ _ hc)
    refine (keyS_any _ _ _ _).mono ?_
    rintro e' w' ⟨rfl, x, rfl⟩
    go_wp2_with fail
    go_ret
    exact ⟨ret_i64 hm.out.symm, hE.trans ⟨x, rfl⟩⟩
/-- The number that is signed. -/
@[irreducible] noncomputable def signF (a b e n : Int) : Int := if keyV a b e = true then powF n (invX a b e) (a * b) else -1
theorem signF_yes {a b e n : Int} (h : keyV a b e = true) : signF a b e n = powF n (invX a b e) (a * b) := by unfold signF; rw [if_pos h]
theorem signF_no {a b e n : Int} (h : keyV a b e = false) : signF a b e n = -1 := by unfold signF; rw [h]; rfl
theorem signS_any (a b e n : Int) (w : World) : Calls Try.prog 68 #[keyA a b e, .int .i64 n] w fun e' w' => e' = .returned (.int .i64 (signF a b e n)) ∧ Ext.of w w' := by
  go_enter Try.func68, Try.ntmps68
  cases hv : keyV a b e with
  | false =>
    have hm := hid_ (signF_no (n := n) hv)
    have hq := modF_no hv
    go_wp2_with (go_at_call 38; refine (modS_any _ _ _ _).mono ?_; rintro e' w' ⟨rfl, hX⟩)
    go_ret
    exact ⟨ret_i64 hm.out.symm, ((Ext.of.refl _).alloc _).trans hX⟩
  | true =>
    have hp := keyV_iff.1 hv
    have hm := hid_ (signF_yes (n := n) hv)
    have hq := modF_yes hv
    have ha := hp.1
    have hb := hp.2.1
    have he := hp.2.2.2.2.2.1
    have hr := round_bound ha hb
    have hab := mod_bound hp
    have ht := Int.tmod_eq_emod_of_nonneg (a := e) (b := roundF a b) (by omega)
    have h0 : 0 ≤ e % roundF a b := Int.emod_nonneg _ (by omega)
    have h1 : e % roundF a b < roundF a b := Int.emod_lt_of_pos _ (by omega)
    have hx := IntWalk.i64_in (e % roundF a b) ⟨by omega, by omega⟩
    have hx' := IntWalk.i64_in (a * b - 1) ⟨by omega, by omega⟩
    have hz : ¬ roundF a b = 0 := by omega
    have hz' : (roundF a b == 0) = false := by simpa using hz
    have hlt : decide (a * b < 0) = false := by simp; omega
    clear hp h0 h1 hr
    go_wp2_with fail
    generalize hW : w.alloc (Obj.cells #[Value.int IntKind.i64 a, Value.int IntKind.i64 b, Value.int IntKind.i64 e] 30) = W
    have hE : Ext.of w W := by rw [← hW]; exact (Ext.of.refl _).alloc _
    have hc : W.heap[w.heap.size]? = some (.cells #[Value.int IntKind.i64 a, Value.int IntKind.i64 b, Value.int IntKind.i64 e] 30 (0, 0)) := by rw [← hW]; exact alloc_new' rfl
    have d0 := more_cell (cell_of_row W w.heap.size 0 _ _ _ hc)
    have d1 := more_cell (cell_of_row W w.heap.size 1 _ _ _ hc)
    have d2 := more_cell (cell_of_row W w.heap.size 2 _ _ _ hc)
    clear hc hW
    refine (modS_any _ _ _ _).mono ?_
    rintro e' w' ⟨rfl, x, rfl⟩
    cases hi : inB n 0 (a * b - 1) with
    | false =>
      have hn := hid_ (powF_no (a := n) (x := invX a b e) (m := a * b) (fun h => inB_not hi h.2.1))
      clear d0 d1 d2
      go_wp2_with (go_at_call 37; refine (l1In_any _ _ _ _).mono ?_; rintro e' w' ⟨rfl, rfl⟩)
      go_ret
      exact ⟨ret_i64 (by rw [hm.out, hn.out]), hE.trans ⟨x, rfl⟩⟩
    | true =>
      go_wp2_with (go_at_call 37; refine (l1In_any _ _ _ _).mono ?_; rintro e' w' ⟨rfl, rfl⟩)
      generalize hW : More W x = V
      have hE' : Ext.of w V := by rw [← hW]; exact hE.trans ⟨x, rfl⟩
      have f0 := more_cell (hW ▸ d0 x)
      have f1 := more_cell (hW ▸ d1 x)
      have f2 := more_cell (hW ▸ d2 x)
      clear hW d0 d1 d2 hE hi
      unfold invX at hm
      refine wp_region_more (by kernel_rfl) (by kernel_rfl) ?_
      repeat (go_big_quiet_step (first
        | exact more_of (round_any a b e _ ha hb)
        | exact more_same (invS_any _ _ _)
        | exact more_same (powS_any _ _ _ _)))
      refine wpQuiet_nil ?_
      rintro _ ⟨y, rfl⟩
      go_wp2_with fail
      go_ret
      exact ⟨ret_i64 hm.out.symm, hE'.trans ⟨y, rfl⟩⟩
end Go.Proofs.Ytcpepjnmjiffcaa
