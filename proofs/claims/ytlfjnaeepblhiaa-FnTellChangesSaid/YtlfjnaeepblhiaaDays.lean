/- The contracts of LeapYear, MonthDays and DayNumber, the program's and the reference's, for years in 1..4000. -/
import Derived.Test.YtlfjnaeepblhiaaBase
import Derived.Test.YtlfjnaeepblhiaaMore
namespace Go.Proofs.Ytlfjnaeepblhiaa
open Go.RowKit
set_option linter.unusedVariables false
set_option linter.unusedSimpArgs false
@[irreducible] def leapV (y : Int) : Bool := decide (y % 4 = 0 ∧ (y % 100 ≠ 0 ∨ y % 400 = 0))
theorem tmod_of {y : Int} (k : Int) (h : 0 ≤ y) : y.tmod k = y % k := Int.tmod_eq_emod_of_nonneg h
theorem tdiv_of {y : Int} (k : Int) (h : 0 ≤ y) : y.tdiv k = y / k := Int.tdiv_eq_ediv_of_nonneg h
theorem leap_is {y : Int} {b : Bool} (h : b = true ↔ (y % 4 = 0 ∧ (y % 100 ≠ 0 ∨ y % 400 = 0))) : leapV y = b := by
  unfold leapV; rw [Bool.eq_iff_iff, decide_eq_true_iff, h]
/-- How many days a month has. -/
@[irreducible] def mdV (y m : Int) : Int := if m = 2 then (if leapV y then 29 else 28) else if m = 4 ∨ m = 6 ∨ m = 9 ∨ m = 11 then 30 else 31
theorem mdV_range (y m : Int) : 28 ≤ mdV y m ∧ mdV y m ≤ 31 := by unfold mdV; split; split; all_goals (first | omega | (split <;> omega))
theorem leapI_any (y : Int) (h0 : 1 ≤ y) (h1 : y ≤ 4000) (w : World) : Calls Try.prog 96 #[.int .i64 y] w fun e w' => e = .returned (.bool (leapV y)) ∧ w = w' := by
  have b1 : inB y 1 4000 = true := inB_yes ⟨h0, h1⟩
  have e1 := tmod_of 4 (y := y) (by omega)
  have e2 := tmod_of 100 (y := y) (by omega)
  have e3 := tmod_of 400 (y := y) (by omega)
  cases x1 : (y % 400 == 0) <;> cases x2 : (y % 4 == 0) <;> cases x3 : (y % 100 != 0)
  all_goals
    have R := hid_ (leap_is (y := y) (b := (y % 400 == 0) || ((y % 4 == 0) && (y % 100 != 0))) (by simp only [Bool.or_eq_true, Bool.and_eq_true, bne_iff_ne, beq_iff_eq, ne_eq]; try omega))
    go_enter Try.func96, Try.ntmps96
    go_wp2_with (go_at_call 56; refine (within_any _ _ _ _).mono ?_; rintro e w' ⟨rfl, rfl⟩)
    go_ret
    exact ⟨ret_bool (R.out.trans (by rw [x1, x2, x3]; rfl)).symm, rfl⟩
theorem leapS_any (y : Int) (h0 : 1 ≤ y) (h1 : y ≤ 4000) (w : World) : Calls Try.prog 98 #[.int .i64 y] w fun e w' => e = .returned (.bool (leapV y)) ∧ w = w' := by
  have b1 : inB y 1 4000 = true := inB_yes ⟨h0, h1⟩
  have e1 := tmod_of 4 (y := y) (by omega)
  have e2 := tmod_of 100 (y := y) (by omega)
  have e3 := tmod_of 400 (y := y) (by omega)
  cases x1 : (y % 400 == 0) <;> cases x2 : (y % 4 == 0) <;> cases x3 : (y % 100 != 0)
  all_goals
    have R := hid_ (leap_is (y := y) (b := (y % 4 == 0) && ((y % 100 != 0) || (y % 400 == 0))) (by simp only [Bool.or_eq_true, Bool.and_eq_true, bne_iff_ne, beq_iff_eq, ne_eq]; try omega))
    go_enter Try.func98, Try.ntmps98
    go_wp2_with (go_at_call 65; refine (l1In_any _ _ _ _).mono ?_; rintro e w' ⟨rfl, rfl⟩)
    go_ret
    exact ⟨ret_bool (R.out.trans (by rw [x1, x2, x3]; rfl)).symm, rfl⟩
theorem md_two (y : Int) : mdV y 2 = if leapV y then 29 else 28 := by unfold mdV; simp
theorem md_else {y m : Int} (h : m ≠ 2) : mdV y m = if m = 4 ∨ m = 6 ∨ m = 9 ∨ m = 11 then 30 else 31 := by unfold mdV; rw [if_neg h]
set_option maxHeartbeats 1000000 in
theorem mdI_any (y m : Int) (h0 : 1 ≤ y) (h1 : y ≤ 4000) (m0 : 1 ≤ m) (m1 : m ≤ 12) (w : World) : Calls Try.prog 93 #[.int .i64 y, .int .i64 m] w fun e w' => e = .returned (.int .i64 (mdV y m)) ∧ w = w' := by
  have b1 : inB y 1 4000 = true := inB_yes ⟨h0, h1⟩
  have b2 : inB m 1 12 = true := inB_yes ⟨m0, m1⟩
  by_cases e : m = 2
  · subst e
    have C := fun W => leapI_any y h0 h1 W
    cases x : leapV y
    all_goals
      have R := hid_ (md_two y)
      rw [x] at R C
      clear x
      go_enter Try.func93, Try.ntmps93
      go_wp2_with (first | (go_at_call 56; refine (within_any _ _ _ _).mono ?_; rintro e w' ⟨rfl, rfl⟩) | (go_at_call 96; refine (C _).mono ?_; rintro e w' ⟨rfl, rfl⟩))
      go_ret
      exact ⟨ret_i64 R.out.symm, rfl⟩
  · have R := hid_ (md_else (y := y) e)
    obtain rfl | rfl | rfl | rfl | rfl | rfl | rfl | rfl | rfl | rfl | rfl : m = 1 ∨ m = 3 ∨ m = 4 ∨ m = 5 ∨ m = 6 ∨ m = 7 ∨ m = 8 ∨ m = 9 ∨ m = 10 ∨ m = 11 ∨ m = 12 := by omega
    all_goals
      go_enter Try.func93, Try.ntmps93
      go_wp2_with (go_at_call 56; refine (within_any _ _ _ _).mono ?_; rintro e w' ⟨rfl, rfl⟩)
      go_ret
      exact ⟨ret_i64 (R.out.trans (by decide)).symm, rfl⟩
set_option maxHeartbeats 1000000 in
theorem mdS_any (y m : Int) (h0 : 1 ≤ y) (h1 : y ≤ 4000) (m0 : 1 ≤ m) (m1 : m ≤ 12) (w : World) : Calls Try.prog 97 #[.int .i64 y, .int .i64 m] w fun e w' => e = .returned (.int .i64 (mdV y m)) ∧ Ext.of w w' := by
  have b1 : inB y 1 4000 = true := inB_yes ⟨h0, h1⟩
  have b2 : inB m 1 12 = true := inB_yes ⟨m0, m1⟩
  by_cases e : m = 2
  · subst e
    have C := fun W => leapS_any y h0 h1 W
    cases x : leapV y
    all_goals
      have R := hid_ (md_two y)
      rw [x] at R C
      clear x
      go_enter Try.func97, Try.ntmps97
      go_wp2_with (first | (go_at_call 65; refine (l1In_any _ _ _ _).mono ?_; rintro e w' ⟨rfl, rfl⟩) | (go_at_call 98; refine (C _).mono ?_; rintro e w' ⟨rfl, rfl⟩))
      go_ret
      first
        | exact ⟨ret_i64 R.out.symm, Ext.of.refl _⟩
        | exact ⟨ret_i64 R.out.symm, (Ext.of.refl _).alloc _⟩
  · have R := hid_ (md_else (y := y) e)
    obtain rfl | rfl | rfl | rfl | rfl | rfl | rfl | rfl | rfl | rfl | rfl : m = 1 ∨ m = 3 ∨ m = 4 ∨ m = 5 ∨ m = 6 ∨ m = 7 ∨ m = 8 ∨ m = 9 ∨ m = 10 ∨ m = 11 ∨ m = 12 := by omega
    all_goals
      go_enter Try.func97, Try.ntmps97
      go_wp2_with (go_at_call 65; refine (l1In_any _ _ _ _).mono ?_; rintro e w' ⟨rfl, rfl⟩)
      go_ret
      exact ⟨ret_i64 (R.out.trans (by decide)).symm, (Ext.of.refl _).alloc _⟩
end Go.Proofs.Ytlfjnaeepblhiaa
