/- The walk of FnExactPageOf: it returns true and turns nothing that was there. -/
import Derived.Test.YtocaopabpjfhhaaPage
namespace Go.Proofs.Ytocaopabpjfhhaa.fnExactPageOf
open Go.RowKit
set_option linter.unusedVariables false

set_option maxHeartbeats 1000000 in
theorem walk (a0 : Option Addr) (len0 cap0 : Nat) (z0 : List Int) (a1 a2 : Int) (w : World) (w0 : Row .i64 w a0 len0 cap0 z0) (w1 : (Lit.int .i64 a1).wf = true) (w2 : (Lit.int .i64 a2).wf = true) :
    Calls Try.prog 6 #[.slice a0 len0 cap0, .int .i64 a1, .int .i64 a2] w fun e w' => e = .returned (.bool true) ∧ Below w.heap.size w w' := by
  have S := w0.sl
  clear w0 w1 w2
  have hmax := S.max
  have hcap := S.cap
  unfold maxLen at hmax
  by_cases hn : 1048576 < len0
  · go_enter Try.func6, Try.ntmps6
    go_wp2
    go_ret
    exact ⟨rfl, Below.refl _ _⟩
  · have hn' : len0 ≤ 1048576 := by omega
    clear hmax hcap
    go_enter Try.func6, Try.ntmps6
    go_wp2_with fail
    refine (toIntS_any _ _ _ z0 _ S hn').mono ?_
    rintro e w1 ⟨rfl, o1, b1⟩
    have T1 := b1
    go_wp2_with fail
    refine (pageS_any _ _ _ z0 _ _ _ (own_sl o1)).mono ?_
    rintro e w2 ⟨B2, k2, d2, rfl, o2, b2⟩
    have T2 := below_next T1 b2
    clear o1 b1 T1
    go_wp2_with fail
    refine (toIntS_any _ _ _ z0 _ (S.below T2) hn').mono ?_
    rintro e w3 ⟨rfl, o3, b3⟩
    have T3 := below_next T2 b3
    have P23 := hid (own_apart o2 o3 (Nat.le_refl _))
    have o3 := own_lower o3 T2.size
    have o2 := own_below o2 b3
    clear b2 b3 T2
    go_wp2_with fail
    refine (pageI_any _ _ _ z0 _ _ _ (own_sl o3)).mono ?_
    rintro e w4 ⟨B4, k4, d4, rfl, o4, b4⟩
    have T4 := below_next T3 b4
    have P34 := hid (own_apart' o3 o4 (Nat.le_refl _))
    have P24 := hid (own_apart o2 o4 (Nat.le_refl _))
    have o4 := own_lower o4 T3.size
    have o2 := own_below o2 b4
    have o3 := own_below o3 b4
    clear b4 T3
    go_wp2_with fail
    refine (eqIntS_any _ _ _ _ _ _ _ _ _ (own_sl o4) (own_sl o2)).mono ?_
    rintro e w' ⟨rfl, q4, rfl⟩
    have o2 := own_drewN o2 q4
    have o3 := own_drewN o3 q4
    have o4 := own_drewN o4 q4
    have T4 := below_drewN T4 q4
    go_wp2_with fail
    refine (toIntS_any _ _ _ z0 _ (S.below T4) hn').mono ?_
    rintro e w5 ⟨rfl, o5, b5⟩
    have T5 := below_next T4 b5
    have o2 := own_below o2 b5
    have o3 := own_below o3 b5
    have o4 := own_below o4 b5
    clear b5 T4
    go_wp2_with fail
    refine (eqIntS_any _ _ _ _ _ _ _ _ _ (own_sl o3) (own_sl o5)).mono ?_
    rintro e w' ⟨rfl, q5, rfl⟩
    have o2 := own_drewN o2 q5
    have o3 := own_drewN o3 q5
    have o4 := own_drewN o4 q5
    have T5 := below_drewN T5 q5
    clear o5
    go_wp2_with fail
    refine (markIntS_any _ _ _ _ 1 rfl _ _ _ o3 hn' (by omega)).mono ?_
    rintro e w6 ⟨rfl, o3, g6⟩
    have T6 := T5.grown g6 T5.size (fun k hk => (o3.lt k hk).1)
    have o2 := o2.kept g6 P23.out
    have o4 := o4.kept g6 P34.out
    clear T5
    go_wp2_with fail
    refine (eqIntS_any _ _ _ _ _ _ _ _ _ (own_sl o4) (own_sl o2)).mono ?_
    rintro e w' ⟨rfl, q6, rfl⟩
    have o2 := own_drewN o2 q6
    have o4 := own_drewN o4 q6
    have T6 := below_drewN T6 q6
    have hk4 : k4 ≤ 1048576 := by
      have h1 := o4.1
      have h2 := pageL_length z0 a1 a2
      have h3 := S.len
      simp at h1 h3
      omega
    go_wp2_with fail
    refine (markIntS_any _ _ _ _ 1 rfl _ _ _ o4 hk4 (by omega)).mono ?_
    rintro e w7 ⟨rfl, o4, g7⟩
    have T7 := T6.grown g7 T6.size (fun k hk => (o4.lt k hk).1)
    have o2 := o2.kept g7 P24.out
    go_wp2_with fail
    refine (heldIntS_any _ _ _ _ 1 rfl _ (own_sl o4) hk4 (by omega)).mono ?_
    rintro e w' ⟨rfl, rfl⟩
    go_wp2_with fail
    refine (toIntS_any _ _ _ z0 _ (S.below T7) hn').mono ?_
    rintro e w8 ⟨rfl, o8, b8⟩
    have T8 := below_next T7 b8
    have o2 := own_below o2 b8
    have o4 := own_below o4 b8
    clear b8 T7
    go_wp2_with fail
    refine (pageI_any _ _ _ z0 _ _ _ (own_sl o8)).mono ?_
    rintro e w9 ⟨B9, k9, d9, rfl, o9, b9⟩
    have T9 := below_next T8 b9
    have o2 := own_below o2 b9
    have o4 := own_below o4 b9
    clear b9 T8 o8
    go_wp2_with fail
    refine (eqIntS_any _ _ _ _ _ _ _ _ _ (own_sl o9) (own_sl o2)).mono ?_
    rintro e w' ⟨rfl, q9, rfl⟩
    have o4 := own_drewN o4 q9
    have T9 := below_drewN T9 q9
    go_wp2_with fail
    refine (heldIntS_any _ _ _ _ 1 rfl _ (own_sl o4) hk4 (by omega)).mono ?_
    rintro e w' ⟨rfl, rfl⟩
    go_wp2_with fail
    go_ret
    exact ⟨rfl, T9⟩
end Go.Proofs.Ytocaopabpjfhhaa.fnExactPageOf
