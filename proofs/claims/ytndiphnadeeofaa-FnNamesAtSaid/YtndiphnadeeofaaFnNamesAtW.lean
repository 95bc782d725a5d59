/- The walk of FnNamesAt: it returns true and turns nothing that was there. -/
import Derived.Test.YtndiphnadeeofaaPlainNames
namespace Go.Proofs.Ytndiphnadeeofaa.fnNamesAt
open Go.RowKit
set_option linter.unusedVariables false
set_option linter.unusedSimpArgs false
set_option maxHeartbeats 800000 in
theorem walk (a0 : Option Addr) (len0 cap0 : Nat) (z0 : List Int) (w : World) (w0 : Row .u8 w a0 len0 cap0 z0) :
    Calls Try.prog 9 #[.slice a0 len0 cap0] w fun e w' => e = .returned (.bool true) ∧ Below w.heap.size w w' := by
  have hmax := w0.sl.max
  have hcap := w0.sl.cap
  unfold maxLen at hmax
  by_cases hn : 1048576 < len0
  · go_enter Try.func9, Try.ntmps9
    go_wp2
    go_ret
    exact ⟨rfl, Below.refl _ _⟩
  · go_enter Try.func9, Try.ntmps9
    go_wp2_with fail
    refine (drawNames_any _ _ _ _ _ w0).mono ?_
    rintro e w1 ⟨B1, k1, d1, ys, s, rfl, o1, hok, hk1, hs, T1⟩
    have HOK := hid hok
    clear w0 hmax hcap hn hok hk1 hs
    go_wp2_with fail
    refine (namesI_any _ _ _ ys s _ (own_sl o1) HOK.out).mono ?_
    rintro e w2 ⟨B2, k2, d2, rfl, o2, b2⟩
    have o2 := own_lower o2 T1.size
    have o1 := own_below o1 b2
    have T2 := below_next T1 b2
    clear b2 T1
    go_wp2_with fail
    refine (namesS_any _ _ _ ys s _ (own_sl o1) HOK.out).mono ?_
    rintro e w3 ⟨B3, k3, d3, rfl, o3, b3⟩
    have o2 := own_below o2 b3
    have o1 := own_below o1 b3
    have T3 := below_next T2 b3
    clear b3 T2
    go_wp2_with fail
    refine (sameTexts_any _ _ _ _ _ _ _ _ _ (own_sl o2) (own_sl o3)).mono ?_
    rintro e w4 ⟨rfl, x4⟩
    have o2 := own_ext o2 x4
    have o1 := own_ext o1 x4
    have T4 := below_next T3 x4.below
    clear x4 T3 o3
    have LAW := hid (names_law ys s)
    have hl2 : k2 ≤ 10 := by have h1 := own_count o2 stC_len (by omega); have h2 := namesV_ten ys s; omega
    have hf : decide (namesV ys s = namesV ys s) = true := by simp
    generalize namesV ys s = L at *
    go_wp2
    clear hf
    go_loopw [6] (fun i wr => ∃ k : Nat, k ≤ k2 ∧ i = .int .i64 k ∧ wr.ownsRow w.heap.size 33 2 (.slice B1 k1 d1) k1 (hds ys) ∧ wr.ownsRow w.heap.size 9 1 (.slice B2 k2 d2) k2 (sts L) ∧ Below w.heap.size w wr) (fun i _ => k2 - (intOf i).toNat)
    case atStart => exact ⟨0, by omega, rfl, o1, o2, T4⟩
    case round =>
      obtain ⟨k, hk, rfl, p1, p2, T⟩ := hrel
      clear o1 o2 T4
      by_cases hlt : k < k2
      · obtain ⟨ad, x, hA, hx, c0⟩ := (own_sl p2).st hlt
        subst hA
        obtain ⟨LA, LB⟩ := LAW.out k x hx
        have C := fun A n c W (hW : Sl W A n c 2 (hds ys)) => unfollowI_any A n c ys x s W hW HOK.out
        rw [LA] at C
        have HB := hid LB
        clear hx LA LB
        go_wp2_with fail
        refine (C _ _ _ _ (own_sl p1)).mono ?_
        rintro e w5 ⟨B5, k5, d5, rfl, o5, b5⟩
        have q1 := own_below p1 b5
        have q2 := own_below p2 b5
        have T5 := below_next T b5
        have m0 := more_cell ((Ext.of_below b5).cell c0)
        clear o5 c0 C T p1
        by_cases hk0 : k = 0
        · have t0 : decide (0 < k) = false := by simp; omega
          have t0' : decide ((0 : Int) < (k : Int)) = false := by simp; omega
          have HK := hid hk0
          clear hk0 b5 p2
          go_wp2
          refine wp_region_more (by kernel_rfl) (by kernel_rfl) ?_
          repeat (go_big_quiet_step (fail))
          refine wpQuiet_nil ?_
          rintro _ ⟨z, rfl⟩
          have X : Ext.of w5 (More w5 z) := ⟨z, rfl⟩
          have r1 := own_ext q1 X
          have r2 := own_ext q2 X
          have T6 := below_next T5 X.below
          clear q1 q2 T5 X m0
          go_wp2
          go_roundw
          case rel => exact ⟨k + 1, by omega, by go_num, r1, r2, T6⟩
          case measure => simp [intOf]; omega
        · have hk1 : 0 < k := by omega
          have t0 : decide (0 < k) = true := by simp; omega
          have t0' : decide ((0 : Int) < (k : Int)) = true := by simp; omega
          obtain ⟨ad', x', hA', hx', c1⟩ := (own_sl p2).st (j := k - 1) (by omega)
          injection hA' with hA'
          subst hA'
          obtain ⟨hless, hsame⟩ := less_flip (HB.out x' hk1 hx')
          have hleq : (Op.bytesLess x.toList x'.toList || (x.toList == x'.toList)) = false := by rw [hless, hsame]; rfl
          have m1 := more_cell ((Ext.of_below b5).cell c1)
          clear hk0 b5 p2 c1 hx'
          go_wp2
          refine wp_region_more (by kernel_rfl) (by kernel_rfl) ?_
          repeat (go_big_quiet_step (fail))
          refine wpQuiet_nil ?_
          rintro _ ⟨z, rfl⟩
          have X : Ext.of w5 (More w5 z) := ⟨z, rfl⟩
          have r1 := own_ext q1 X
          have r2 := own_ext q2 X
          have T6 := below_next T5 X.below
          clear q1 q2 T5 X m0 m1
          go_wp2
          go_roundw
          case rel => exact ⟨k + 1, by omega, by go_num, r1, r2, T6⟩
          case measure => simp [intOf]; omega
      · go_wp2_with (go_at_call 19; refine (alive_any _).mono ?_; rintro e w' ⟨rfl, rfl⟩)
        go_ret
        exact ⟨rfl, T⟩
end Go.Proofs.Ytndiphnadeeofaa.fnNamesAt
