/- The walk of FnExactNamesAt: it returns true and turns nothing that was there. -/
import Derived.Test.YtndiphnadeeofaaNames
namespace Go.Proofs.Ytndiphnadeeofaa.fnExactNamesAt
open Go.RowKit
set_option linter.unusedVariables false
set_option maxHeartbeats 2000000 in
theorem walk (a0 : Option Addr) (len0 cap0 : Nat) (z0 : List Hd) (a1 : ByteArray) (w : World) (w0 : Sl w a0 len0 cap0 2 (hds z0) ∧ hdOk z0) (w1 : a1.size ≤ maxLen) :
    Calls Try.prog 7 #[.slice a0 len0 cap0, .string a1] w fun e w' => e = .returned (.bool true) ∧ Below w.heap.size w w' := by
  obtain ⟨S0, hok0⟩ := w0
  have HOK0 := hid hok0
  clear hok0
  unfold maxLen at w1
  have T0 := Below.refl w.heap.size w
  by_cases hs1 : 1048576 < a1.size
  · go_enter Try.func7, Try.ntmps7
    go_wp2_with fail
    go_ret
    exact ⟨rfl, T0⟩
  · have hs1' : a1.size ≤ 1048576 := by omega
    go_enter Try.func7, Try.ntmps7
    go_wp2_with fail
    refine (szHandleS_any _ _ _ z0 1048576 _ (S0.below T0) (by omega) (by omega) HOK0.out).mono ?_
    rintro e v0 ⟨r0, rfl, r00, r01, r02, x0⟩
    have T1 := below_next T0 x0.below
    by_cases hr0 : r0 < 0
    · clear r02 x0
      go_wp2_with fail
      go_ret
      exact ⟨rfl, T1⟩
    · have hn0 : len0 ≤ 1048576 := by have := r02 (by omega); omega
      clear r02 x0 T0
      go_wp2_with fail
      refine (toHandleS_any _ _ _ z0 _ (S0.below T1) hn0).mono ?_
      rintro e y2 ⟨rfl, oa, b2⟩
      have oa := own_lower oa T1.size
      have T2 := below_next T1 b2
      clear b2 T1
      go_wp2_with fail
      refine (namesS_any _ _ _ z0 a1 _ (own_sl oa) HOK0.out).mono ?_
      rintro e y3 ⟨B3, k3, d3, rfl, ow, b3⟩
      have ow := own_lower ow T2.size
      have oa := own_below oa b3
      have T3 := below_next T2 b3
      clear b3 T2
      clear oa
      go_wp2_with fail
      refine (toHandleS_any _ _ _ z0 _ (S0.below T3) hn0).mono ?_
      rintro e y4 ⟨rfl, ox, b4⟩
      have P_ow_ox := hid (own_apart ow ox (Nat.le_refl _))
      have ox := own_lower ox T3.size
      have ow := own_below ow b4
      have T4 := below_next T3 b4
      clear b4 T3
      go_wp2_with fail
      refine (namesI_any _ _ _ z0 a1 _ (own_sl ox) HOK0.out).mono ?_
      rintro e y5 ⟨B5, k5, d5, rfl, og, b5⟩
      have P_ow_og := hid (own_apart ow og (Nat.le_refl _))
      have P_og_ox := hid (own_apart' ox og (Nat.le_refl _))
      have og := own_lower og T4.size
      have ow := own_below ow b5
      have ox := own_below ox b5
      have T5 := below_next T4 b5
      clear b5 T4
      go_wp2_with fail
      refine (eqStringS_any _ _ _ _ _ _ _ _ _ (own_sl og) (own_sl ow)).mono ?_
      rintro e y6 ⟨rfl, x6⟩
      have ow := own_ext ow x6
      have ox := own_ext ox x6
      have og := own_ext og x6
      have T6 := below_next T5 x6.below
      clear x6 T5
      go_wp2_with fail
      refine (toHandleS_any _ _ _ z0 _ (S0.below T6) hn0).mono ?_
      rintro e y7 ⟨rfl, oa, b7⟩
      have oa := own_lower oa T6.size
      have ow := own_below ow b7
      have ox := own_below ox b7
      have og := own_below og b7
      have T7 := below_next T6 b7
      clear b7 T6
      go_wp2_with fail
      refine (eqHandleS_any _ _ _ _ _ _ _ _ _ (own_sl ox) (own_sl oa)).mono ?_
      rintro e y8 ⟨rfl, x8⟩
      have ow := own_ext ow x8
      have ox := own_ext ox x8
      have og := own_ext og x8
      have oa := own_ext oa x8
      have T8 := below_next T7 x8.below
      clear x8 T7
      clear oa
      go_wp2_with fail
      refine (markHandleS_any _ _ _ _ 1 rfl _ _ _ ox hn0 (by omega) (by omega)).mono ?_
      rintro e y9 ⟨rfl, ox, g9⟩
      have ow := ow.kept g9 P_ow_ox.out
      have og := og.kept g9 P_og_ox.out
      have T9 := T8.grown g9 T8.size (fun k hk => (ox.lt k hk).1)
      clear g9 T8
      clear ox
      go_wp2_with fail
      refine (eqStringS_any _ _ _ _ _ _ _ _ _ (own_sl og) (own_sl ow)).mono ?_
      rintro e y10 ⟨rfl, x10⟩
      have ow := own_ext ow x10
      have og := own_ext og x10
      have T10 := below_next T9 x10.below
      clear x10 T9
      have hk : k5 ≤ 1048576 := by have h1 := own_count og stC_len (by omega); have h2 := namesV_len z0 a1; omega
      go_wp2_with fail
      refine (markStringS_any _ _ _ _ 1 rfl _ _ _ og hk (by omega) (by omega)).mono ?_
      rintro e y11 ⟨rfl, og, g11⟩
      have ow := ow.kept g11 P_ow_og.out
      have T11 := T10.grown g11 T10.size (fun k hk => (og.lt k hk).1)
      clear g11 T10
      go_wp2_with fail
      refine (heldStringS_any _ _ _ _ 1 rfl _ (own_sl og) hk (by omega) (by omega)).mono ?_
      rintro e y12 ⟨rfl, x12⟩
      have ow := own_ext ow x12
      have og := own_ext og x12
      have T12 := below_next T11 x12.below
      clear x12 T11
      go_wp2_with fail
      refine (toHandleS_any _ _ _ z0 _ (S0.below T12) hn0).mono ?_
      rintro e y13 ⟨rfl, oa, b13⟩
      have oa := own_lower oa T12.size
      have ow := own_below ow b13
      have og := own_below og b13
      have T13 := below_next T12 b13
      clear b13 T12
      go_wp2_with fail
      refine (namesI_any _ _ _ z0 a1 _ (own_sl oa) HOK0.out).mono ?_
      rintro e y14 ⟨B14, k14, d14, rfl, oh, b14⟩
      have oh := own_lower oh T13.size
      have ow := own_below ow b14
      have og := own_below og b14
      have oa := own_below oa b14
      have T14 := below_next T13 b14
      clear b14 T13
      clear oa
      go_wp2_with fail
      refine (eqStringS_any _ _ _ _ _ _ _ _ _ (own_sl oh) (own_sl ow)).mono ?_
      rintro e y15 ⟨rfl, x15⟩
      have ow := own_ext ow x15
      have og := own_ext og x15
      have oh := own_ext oh x15
      have T15 := below_next T14 x15.below
      clear x15 T14
      clear oh ow
      go_wp2_with fail
      refine (heldStringS_any _ _ _ _ 1 rfl _ (own_sl og) hk (by omega) (by omega)).mono ?_
      rintro e y16 ⟨rfl, x16⟩
      have og := own_ext og x16
      have T16 := below_next T15 x16.below
      clear x16 T15
      go_wp2_with fail
      go_ret
      exact ⟨rfl, T16⟩
end Go.Proofs.Ytndiphnadeeofaa.fnExactNamesAt
