/- The walk of FnHostsOf: it returns true and turns nothing that was there. -/
import Derived.Test.YtndiphnadeeofaaPlainHosts
namespace Go.Proofs.Ytndiphnadeeofaa.fnHostsOf
open Go.RowKit
set_option linter.unusedVariables false
set_option linter.unusedSimpArgs false
set_option maxHeartbeats 800000 in
theorem walk (a0 : Option Addr) (len0 cap0 : Nat) (z0 : List Int) (w : World) (w0 : Row .u8 w a0 len0 cap0 z0) :
    Calls Try.prog 5 #[.slice a0 len0 cap0] w fun e w' => e = .returned (.bool true) ∧ Below w.heap.size w w' := by
  have hmax := w0.sl.max
  have hcap := w0.sl.cap
  unfold maxLen at hmax
  by_cases hn : 1048576 < len0
  · go_enter Try.func5, Try.ntmps5
    go_wp2
    go_ret
    exact ⟨rfl, Below.refl _ _⟩
  · go_enter Try.func5, Try.ntmps5
    go_wp2_with fail
    refine (drawHosts_any _ _ _ _ _ w0).mono ?_
    rintro e w1 ⟨B1, k1, d1, ys, rfl, o1, hok, hk1, T1⟩
    have HOK := hid hok
    clear w0 hmax hcap hn hok
    go_wp2_with fail
    refine (hostsI_any _ _ _ ys _ (own_sl o1) HOK.out).mono ?_
    rintro e w2 ⟨B2, k2, d2, rfl, o2, b2⟩
    have o2 := own_lower o2 T1.size
    have o1 := own_below o1 b2
    have T2 := below_next T1 b2
    clear b2 T1
    go_wp2_with fail
    refine (hostsS_any _ _ _ ys _ (own_sl o1) HOK.out).mono ?_
    rintro e w3 ⟨B3, k3, d3, rfl, o3, b3⟩
    have o2 := own_below o2 b3
    have o1 := own_below o1 b3
    have T3 := below_next T2 b3
    clear b3 T2
    go_wp2_with fail
    refine (sameTexts_any _ _ _ _ _ _ _ _ _ (own_sl o2) (own_sl o3)).mono ?_
    rintro e w4 ⟨rfl, x4⟩
    have o2 := own_ext o2 x4
    have o1 := own_ext o1 x4
    have T4 := below_next T3 x4.below
    clear x4 T3 o3
    have hl2 : k2 ≤ 10 := by have h1 := own_count o2 stC_len (by omega); have h2 := hostsV_ten ys; omega
    have HLEN := hid (own_count o2 stC_len (by omega))
    have HCNT := hid (own_count o1 hdC_len (by omega))
    have C3 := fun A n c W (hW : Sl W A n c 2 (hds ys)) => folI_any A n c ys W hW HOK.out
    cases hv : folV ys with
    | false =>
      rw [hv] at C3
      rw [hostsV_no hv] at HLEN
      obtain rfl : k2 = 0 := by have := HLEN.out; simp at this; omega
      clear hv HLEN HCNT
      go_wp2_with fail
      refine (C3 _ _ _ _ (own_sl o1)).mono ?_
      rintro e w5 ⟨rfl, x5⟩
      have T5 := below_next T4 x5.below
      clear x5 T4 o1 o2 C3
      go_wp2_with (go_at_call 19; refine (alive_any _).mono ?_; rintro e w' ⟨rfl, rfl⟩)
      go_ret
      exact ⟨rfl, T5⟩
    | true =>
      rw [hv] at C3
      have LAW := hid (hosts_law hv)
      clear hv
      generalize hostsV ys = H at *
      go_wp2_with fail
      refine (C3 _ _ _ _ (own_sl o1)).mono ?_
      rintro e wf ⟨rfl, xf⟩
      have o2 := own_ext o2 xf
      have o1 := own_ext o1 xf
      have Tf := below_next T4 xf.below
      clear xf T4 C3
      go_wp2
      go_loopw [5, 6] (fun v i wr => ∃ k S : Nat, k ≤ k2 ∧ i = .int .i64 k ∧ v = .int .i64 S ∧ sumTo H (fun x => (namesV ys x).length) k = S ∧ S ≤ 10 * k ∧ wr.ownsRow w.heap.size 33 2 (.slice B1 k1 d1) k1 (hds ys) ∧ wr.ownsRow w.heap.size 9 1 (.slice B2 k2 d2) k2 (sts H) ∧ Below w.heap.size w wr) (fun _ i _ => k2 - (intOf i).toNat)
      case atStart => exact ⟨0, 0, by omega, rfl, rfl, rfl, by omega, o1, o2, Tf⟩
      case round =>
      obtain ⟨k, S, hk, rfl, rfl, hS, hS10, p1, p2, T⟩ := hrel
      have HSum := hid hS
      clear o1 o2 Tf hS
      by_cases hlt : k < k2
      · obtain ⟨ad, x, hA, hx, c0⟩ := (own_sl p2).st hlt
        subst hA
        obtain ⟨LA, LB⟩ := LAW.out.1 k x hx
        have HB := hid LB
        have HX := hid (sumTo_succ (c := fun x => (namesV ys x).length) hx)
        have HP := hid LA
        clear hx LA LB
        go_wp2_with fail
        refine (namesI_any _ _ _ ys x _ (own_sl p1) HOK.out).mono ?_
        rintro e w5 ⟨B5, k5, d5, rfl, o5, b5⟩
        have q1 := own_below p1 b5
        have q2 := own_below p2 b5
        have T5 := below_next T b5
        have m0 := more_cell ((Ext.of_below b5).cell c0)
        have hc5 := own_count o5 stC_len (by omega)
        have hpos : 0 < k5 := by have := HP.out; omega
        have hten : k5 ≤ 10 := by have := namesV_ten ys x; omega
        have t1 : ((k5 : Int) == 0) = false := by simp; omega
        have HS := hid (show sumTo H (fun x => (namesV ys x).length) (k + 1) = S + k5 by rw [HX.out, HSum.out]; omega)
        clear o5 c0 T p1 hc5 HX HSum HP
        by_cases hk0 : k = 0
        · have t0 : decide (0 < k) = false := by simp; omega
          have t0' : decide ((0 : Int) < (k : Int)) = false := by simp; omega
          have HK := hid hk0
          clear hk0 b5 p2
          go_wp2
          refine wp_region_more (by kernel_rfl) (by kernel_rfl) ?_
          repeat (go_big_quiet_step (fail))
          refine wpQuiet_nil ?_
          rintro _ ⟨z, rfl⟩
          have X : Ext.of w5 (More w5 z) := ⟨z, rfl⟩
          have r1 := own_ext q1 X
          have r2 := own_ext q2 X
          have T6 := below_next T5 X.below
          clear q1 q2 T5 X m0
          go_wp2
          go_roundw
          case rel => exact ⟨k + 1, S + k5, by omega, by go_num, by go_num, HS.out, by omega, r1, r2, T6⟩
          case measure => simp [intOf]; omega
        · have hk1' : 0 < k := by omega
          have t0 : decide (0 < k) = true := by simp; omega
          have t0' : decide ((0 : Int) < (k : Int)) = true := by simp; omega
          obtain ⟨ad', x', hA', hx', c1⟩ := (own_sl p2).st (j := k - 1) (by omega)
          injection hA' with hA'
          subst hA'
          obtain ⟨hless, hsame⟩ := less_flip (HB.out x' hk1' hx')
          have hleq : (Op.bytesLess x.toList x'.toList || (x.toList == x'.toList)) = false := by rw [hless, hsame]; rfl
          have m1 := more_cell ((Ext.of_below b5).cell c1)
          clear hk0 b5 p2 c1 hx'
          go_wp2
          refine wp_region_more (by kernel_rfl) (by kernel_rfl) ?_
          repeat (go_big_quiet_step (fail))
          refine wpQuiet_nil ?_
          rintro _ ⟨z, rfl⟩
          have X : Ext.of w5 (More w5 z) := ⟨z, rfl⟩
          have r1 := own_ext q1 X
          have r2 := own_ext q2 X
          have T6 := below_next T5 X.below
          clear q1 q2 T5 X m0 m1
          go_wp2
          go_roundw
          case rel => exact ⟨k + 1, S + k5, by omega, by go_num, by go_num, HS.out, by omega, r1, r2, T6⟩
          case measure => simp [intOf]; omega
      · obtain rfl : k2 = k := by omega
        obtain rfl : S = k1 := by
          have h1 := LAW.out.2
          have h2 := HLEN.out
          have h3 := HCNT.out
          have h4 := HSum.out
          rw [← h2] at h1
          omega
        clear HSum HLEN HCNT
        go_wp2
        go_ret
        exact ⟨rfl, T⟩
end Go.Proofs.Ytndiphnadeeofaa.fnHostsOf
