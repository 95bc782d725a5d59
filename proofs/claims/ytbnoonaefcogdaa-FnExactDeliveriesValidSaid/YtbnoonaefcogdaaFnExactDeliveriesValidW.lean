/- The walk of FnExactDeliveriesValid: it returns true and turns nothing that was there. -/
import Derived.Test.YtbnoonaefcogdaaDelVS
namespace Go.Proofs.Ytbnoonaefcogdaa.fnExactDeliveriesValid
open Go.RowKit
set_option linter.unusedVariables false
theorem walk (a0 : Option Addr) (len0 cap0 : Nat) (z0 : List Dl) (w : World) (w0 : Sl w a0 len0 cap0 4 (dls z0) ∧ dlOk z0) :
    Calls Try.prog 4 #[.slice a0 len0 cap0] w fun e w' => e = .returned (.bool true) ∧ Below w.heap.size w w' := by
  obtain ⟨S, hok⟩ := w0
  have HOK := hid hok
  clear hok
  go_enter Try.func4, Try.ntmps4
  go_wp2_with fail
  refine (szDeliveryS_any _ _ _ z0 1048576 _ S (by omega) (by omega) HOK.out).mono ?_
  rintro e w1 ⟨r, rfl, r0, r1, r2, x1⟩
  have T1 := x1.below
  by_cases hr : r < 0
  · clear r2 x1
    go_wp2_with fail
    go_ret
    exact ⟨rfl, T1⟩
  · have hn : len0 ≤ 1048576 := by have := r2 (by omega); omega
    clear r2
    go_wp2_with fail
    refine (toDeliveryS_any _ _ _ z0 _ (S.below T1) hn).mono ?_
    rintro e w2 ⟨rfl, o2, b2⟩
    have T2 := below_next T1 b2
    go_wp2_with fail
    refine (dlS_any _ _ _ z0 _ (own_sl o2) HOK.out).mono ?_
    rintro e w3 ⟨rfl, x3⟩
    have T3 := below_next T2 x3.below
    clear o2 b2 x3 x1 T1 T2
    go_wp2_with fail
    refine (toDeliveryS_any _ _ _ z0 _ (S.below T3) hn).mono ?_
    rintro e w4 ⟨rfl, o4, b4⟩
    have T4 := below_next T3 b4
    clear b4 T3
    go_wp2_with fail
    refine (dlI_any _ _ _ z0 _ (own_sl o4) HOK.out).mono ?_
    rintro e w5 ⟨rfl, x5⟩
    have T5 := below_next T4 x5.below
    have o5 := own_ext o4 x5
    clear o4 x5 T4
    go_wp2_with fail
    refine (toDeliveryS_any _ _ _ z0 _ (S.below T5) hn).mono ?_
    rintro e w6 ⟨rfl, o6, b6⟩
    have T6 := below_next T5 b6
    have o7 := own_below o5 b6
    clear o5 b6 T5
    go_wp2_with fail
    refine (eqDeliveryS_any _ _ _ _ _ _ z0 z0 _ (own_sl o7) (own_sl o6)).mono ?_
    rintro e w8 ⟨rfl, x8⟩
    have T8 := below_next T6 x8.below
    clear o6 o7 x8 T6
    go_wp2_with fail
    go_ret
    exact ⟨rfl, T8⟩
end Go.Proofs.Ytbnoonaefcogdaa.fnExactDeliveriesValid
