/- The contracts of keys: the inverse of the exponent, whether a key is valid, its modulus. -/
import Derived.Test.YtcpepjnmjiffcaaBase
import Derived.Test.YtcpepjnmjiffcaaModuli
import Derived.Test.YtcpepjnmjiffcaaInverse
import Derived.Test.YtcpepjnmjiffcaaMore
namespace Go.Proofs.Ytcpepjnmjiffcaa
open Go.RowKit
set_option linter.unusedVariables false

abbrev keyA (a b e : Int) : Value := .agg #[.int .i64 a, .int .i64 b, .int .i64 e]
/-- The number that exponents are counted by. -/
@[irreducible] def roundF (a b : Int) : Int := (a - 1) * (b - 1)
theorem roundF_eq (a b : Int) : roundF a b = (a - 1) * (b - 1) := by unfold roundF; rfl
theorem round_bound {a b : Int} (ha : 11 ≤ a ∧ a ≤ 997) (hb : 11 ≤ b ∧ b ≤ 997) : 100 ≤ roundF a b ∧ roundF a b ≤ 992016 := by
  rw [roundF_eq]
  have h1 : 10 * 10 ≤ (a - 1) * (b - 1) := Int.mul_le_mul (by omega) (by omega) (by omega) (by omega)
  have h2 : (a - 1) * (b - 1) ≤ 996 * 996 := Int.mul_le_mul (by omega) (by omega) (by omega) (by omega)
  omega
theorem round_any (a b e : Int) (w : World) (ha : 11 ≤ a ∧ a ≤ 997) (hb : 11 ≤ b ∧ b ≤ 997) :
    Calls Try.prog 61 #[keyA a b e] w fun e w' => e = .returned (.int .i64 (roundF a b)) ∧ Ext.of w w' := by
  have hr := round_bound ha hb
  have hq := roundF_eq a b
  have hx := IntWalk.i64_in (roundF a b) ⟨by omega, by omega⟩
  rw [hq] at hx hr
  rw [roundF_eq]
  clear hq
  go_enter Try.func61, Try.ntmps61
  go_wp2
  go_ret
  exact ⟨rfl, (Ext.of.refl _).alloc _⟩
/-- The inverse of the exponent. -/
noncomputable def invX (a b e : Int) : Int := invF (e % roundF a b) (roundF a b)
theorem invX_any (a b e : Int) (w : World) (ha : 11 ≤ a ∧ a ≤ 997) (hb : 11 ≤ b ∧ b ≤ 997) (he : 3 ≤ e ∧ e ≤ 1000) :
    Calls Try.prog 63 #[keyA a b e] w fun e' w' => e' = .returned (.int .i64 (invX a b e)) ∧ Ext.of w w' := by
  have hr := round_bound ha hb
  have hq := roundF_eq a b
  have hx := IntWalk.i64_in (roundF a b) ⟨by omega, by omega⟩
  have ht := Int.tmod_eq_emod_of_nonneg (a := e) (b := roundF a b) (by omega)
  have h0 : 0 ≤ e % roundF a b := Int.emod_nonneg _ (by omega)
  have h1 : e % roundF a b < roundF a b := Int.emod_lt_of_pos _ (by omega)
  unfold invX
  rw [hq] at *
  clear hq

  go_enter Try.func63, Try.ntmps63
  go_wp2_with (go_at_call 72; refine (invI_any _ _ _).mono ?_; rintro e' w' ⟨rfl, rfl⟩)
  go_ret
  exact ⟨rfl, (Ext.of.refl _).alloc _⟩
noncomputable def keyP (a b e : Int) : Prop := (11 ≤ a ∧ a ≤ 997) ∧ (11 ≤ b ∧ b ≤ 997) ∧ primeP a ∧ primeP b ∧ a ≠ b ∧ (3 ≤ e ∧ e ≤ 1000) ∧ 0 ≤ invX a b e
@[irreducible] noncomputable def keyV (a b e : Int) : Bool := @decide (keyP a b e) (Classical.propDecidable _)
theorem keyV_yes {a b e : Int} (h : keyP a b e) : keyV a b e = true := by unfold keyV; exact @decide_eq_true _ (Classical.propDecidable _) h
theorem keyV_no {a b e : Int} (h : ¬ keyP a b e) : keyV a b e = false := by unfold keyV; exact @decide_eq_false _ (Classical.propDecidable _) h
theorem keyV_iff {a b e : Int} : keyV a b e = true ↔ keyP a b e := by
  by_cases h : keyP a b e
  · simp [keyV_yes h, h]
  · simp [keyV_no h, h]
theorem inB_of {n lo hi : Int} (h : inB n lo hi = true) : lo ≤ n ∧ n ≤ hi := inB_iff.1 h
theorem inB_not {n lo hi : Int} (h : inB n lo hi = false) : ¬ (lo ≤ n ∧ n ≤ hi) := fun h' => by rw [inB_yes h'] at h; cases h
theorem primeV_not {n : Int} (h : primeV n = false) : ¬ primeP n := fun h' => by rw [primeV_yes h'] at h; cases h
theorem keyV_tests {a b e : Int} (e1 : inB a 11 997 = true) (e2 : inB b 11 997 = true) (e3 : primeV a = true) (e4 : primeV b = true) (hne : a ≠ b) (e5 : inB e 3 1000 = true) : keyV a b e = decide (0 ≤ invX a b e) := by
  by_cases h : 0 ≤ invX a b e
  · rw [keyV_yes ⟨inB_of e1, inB_of e2, primeV_iff.1 e3, primeV_iff.1 e4, hne, inB_of e5, h⟩]; simp [h]
  · rw [keyV_no (fun h' => h h'.2.2.2.2.2.2)]; simp [h]
theorem keyS_end (a b e : Int) (w : World) (e1 : inB a 11 997 = true) (e2 : inB b 11 997 = true) (e3 : primeV a = true) (e4 : primeV b = true) (hne : ¬ a = b) (hn : (a == b) = false) (e5 : inB e 3 1000 = true) :
    Calls Try.prog 36 #[keyA a b e] w fun e' w' => e' = .returned (.bool (keyV a b e)) ∧ Ext.of w w' := by
  have hv := hid_ (keyV_tests e1 e2 e3 e4 hne e5)
  have ha := inB_of e1
  have hb := inB_of e2
  have he := inB_of e5
  have hr := round_bound ha hb
  have ht := Int.tmod_eq_emod_of_nonneg (a := e) (b := roundF a b) (by omega)
  have h0 : 0 ≤ e % roundF a b := Int.emod_nonneg _ (by omega)
  have h1 : e % roundF a b < roundF a b := Int.emod_lt_of_pos _ (by omega)
  have hx := IntWalk.i64_in (e % roundF a b) ⟨by omega, by omega⟩
  have hz : ¬ roundF a b = 0 := by omega
  have hz' : (roundF a b == 0) = false := by simpa using hz
  go_enter Try.func36, Try.ntmps36
  go_wp2_with (first
              | (go_at_call 37; refine (l1In_any _ _ _ _).mono ?_; rintro e' w' ⟨rfl, rfl⟩)
              | (go_at_call 59; refine (primeS_any _ _).mono ?_; rintro e' w' ⟨rfl, rfl⟩))
  generalize hW : w.alloc (Obj.cells #[Value.int IntKind.i64 a, Value.int IntKind.i64 b, Value.int IntKind.i64 e] 30) = W
  have hE : Ext.of w W := by rw [← hW]; exact (Ext.of.refl _).alloc _
  have hc : W.heap[w.heap.size]? = some (.cells #[Value.int IntKind.i64 a, Value.int IntKind.i64 b, Value.int IntKind.i64 e] 30 (0, 0)) := by rw [← hW]; exact alloc_new' rfl
  have d0 := more_cell (cell_of_row W w.heap.size 0 _ _ _ hc)
  have d1 := more_cell (cell_of_row W w.heap.size 1 _ _ _ hc)
  have d2 := more_cell (cell_of_row W w.heap.size 2 _ _ _ hc)
  clear hc hW hn hr h0 h1
  clear e1 e2 e3 e4 e5
  unfold invX at hv
  refine wp_region_more (by kernel_rfl) (by kernel_rfl) ?_
  repeat (go_big_quiet_step (first
    | exact more_of (round_any a b e _ ha hb)
    | exact more_same (invS_any _ _ _)))
  
  refine wpQuiet_nil ?_
  rintro _ ⟨x, rfl⟩
  go_wp2_with fail
  go_ret
  exact ⟨ret_bool hv.out.symm, hE.trans ⟨x, rfl⟩⟩
theorem keyS_any (a b e : Int) (w : World) : Calls Try.prog 36 #[keyA a b e] w fun e' w' => e' = .returned (.bool (keyV a b e)) ∧ Ext.of w w' := by
  cases e1 : inB a 11 997 with
  | false =>
    have hk := hid_ (keyV_no (a := a) (b := b) (e := e) (fun h => inB_not e1 h.1))
    go_enter Try.func36, Try.ntmps36
    go_wp2_with (first
            | (go_at_call 37; refine (l1In_any _ _ _ _).mono ?_; rintro e' w' ⟨rfl, rfl⟩)
            | (go_at_call 59; refine (primeS_any _ _).mono ?_; rintro e' w' ⟨rfl, rfl⟩))
    go_ret
    exact ⟨ret_bool hk.out.symm, (Ext.of.refl _).alloc _⟩
  | true =>
    cases e2 : inB b 11 997 with
    | false =>
      have hk := hid_ (keyV_no (a := a) (b := b) (e := e) (fun h => inB_not e2 h.2.1))
      go_enter Try.func36, Try.ntmps36
      go_wp2_with (first
            | (go_at_call 37; refine (l1In_any _ _ _ _).mono ?_; rintro e' w' ⟨rfl, rfl⟩)
            | (go_at_call 59; refine (primeS_any _ _).mono ?_; rintro e' w' ⟨rfl, rfl⟩))
      go_ret
      exact ⟨ret_bool hk.out.symm, (Ext.of.refl _).alloc _⟩
    | true =>
      cases e3 : primeV a with
      | false =>
        have hk := hid_ (keyV_no (a := a) (b := b) (e := e) (fun h => primeV_not e3 h.2.2.1))
        go_enter Try.func36, Try.ntmps36
        go_wp2_with (first
            | (go_at_call 37; refine (l1In_any _ _ _ _).mono ?_; rintro e' w' ⟨rfl, rfl⟩)
            | (go_at_call 59; refine (primeS_any _ _).mono ?_; rintro e' w' ⟨rfl, rfl⟩))
        go_ret
        exact ⟨ret_bool hk.out.symm, (Ext.of.refl _).alloc _⟩
      | true =>
        cases e4 : primeV b with
        | false =>
          have hk := hid_ (keyV_no (a := a) (b := b) (e := e) (fun h => primeV_not e4 h.2.2.2.1))
          go_enter Try.func36, Try.ntmps36
          go_wp2_with (first
            | (go_at_call 37; refine (l1In_any _ _ _ _).mono ?_; rintro e' w' ⟨rfl, rfl⟩)
            | (go_at_call 59; refine (primeS_any _ _).mono ?_; rintro e' w' ⟨rfl, rfl⟩))
          go_ret
          exact ⟨ret_bool hk.out.symm, (Ext.of.refl _).alloc _⟩
        | true =>
          by_cases hne : a = b
          · subst hne
            have hk := hid_ (keyV_no (a := a) (b := a) (e := e) (fun h => h.2.2.2.2.1 rfl))
            go_enter Try.func36, Try.ntmps36
            go_wp2_with (first
            | (go_at_call 37; refine (l1In_any _ _ _ _).mono ?_; rintro e' w' ⟨rfl, rfl⟩)
            | (go_at_call 59; refine (primeS_any _ _).mono ?_; rintro e' w' ⟨rfl, rfl⟩))
            go_ret
            exact ⟨ret_bool hk.out.symm, (Ext.of.refl _).alloc _⟩
          have hn : (a == b) = false := by simpa using hne
          cases e5 : inB e 3 1000 with
          | false =>
            have hk := hid_ (keyV_no (a := a) (b := b) (e := e) (fun h => inB_not e5 h.2.2.2.2.2.1))
            go_enter Try.func36, Try.ntmps36
            go_wp2_with (first
            | (go_at_call 37; refine (l1In_any _ _ _ _).mono ?_; rintro e' w' ⟨rfl, rfl⟩)
            | (go_at_call 59; refine (primeS_any _ _).mono ?_; rintro e' w' ⟨rfl, rfl⟩))
            go_ret
            exact ⟨ret_bool hk.out.symm, (Ext.of.refl _).alloc _⟩
          | true =>
            exact keyS_end a b e w e1 e2 e3 e4 hne hn e5
end Go.Proofs.Ytcpepjnmjiffcaa
