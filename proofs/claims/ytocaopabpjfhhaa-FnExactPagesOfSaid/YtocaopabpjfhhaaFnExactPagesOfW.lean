/- The walk of FnExactPagesOf: it returns true and turns nothing that was there. -/
import Derived.Test.YtocaopabpjfhhaaPagesOf
namespace Go.Proofs.Ytocaopabpjfhhaa.fnExactPagesOf
open Go.RowKit
set_option linter.unusedVariables false

set_option maxHeartbeats 1000000 in
theorem walk (a0 : Option Addr) (len0 cap0 : Nat) (z0 : List Int) (a1 : Int) (w : World) (w0 : Row .i64 w a0 len0 cap0 z0) (w1 : (Lit.int .i64 a1).wf = true) :
    Calls Try.prog 10 #[.slice a0 len0 cap0, .int .i64 a1] w fun e w' => e = .returned (.bool true) ∧ Below w.heap.size w w' := by
  have S := w0.sl
  clear w0 w1
  have hmax := S.max
  have hcap := S.cap
  unfold maxLen at hmax
  by_cases hn : 1048576 < len0
  · go_enter Try.func10, Try.ntmps10
    go_wp2
    go_ret
    exact ⟨rfl, Below.refl _ _⟩
  · have hn' : len0 ≤ 1048576 := by omega
    clear hmax hcap
    go_enter Try.func10, Try.ntmps10
    go_wp2_with fail
    refine (toIntS_any _ _ _ z0 _ S hn').mono ?_
    rintro e w1 ⟨rfl, o1, b1⟩
    have T1 := b1
    go_wp2_with fail
    refine (pagesS_any _ _ _ z0 a1 _ (own_sl o1)).mono ?_
    rintro e w2 ⟨B2, k2, d2, rfl, hk2, b2, ps2, P2, e2⟩
    have E2 := hid e2
    have T2 := below_next T1 b2
    clear o1 b1 T1 e2
    go_wp2_with fail
    refine (toIntS_any _ _ _ z0 _ (S.below T2) hn').mono ?_
    rintro e w3 ⟨rfl, o3, b3⟩
    have T3 := below_next T2 b3
    have Q2 := hid (fun k (hk : k = w2.heap.size) => P2.off_ge (k := k) (by omega))
    have P2 := P2.below b3
    have o3' := own_lower o3 T2.size
    clear b2 b3
    go_wp2_with fail
    refine (pagesI_any _ _ _ z0 a1 _ (own_sl o3)).mono ?_
    rintro e w4 ⟨B4, k4, d4, rfl, hk4, b4, ps4, P4, e4⟩
    have E4 := hid e4
    have T4 := below_next T3 b4
    have Q4 := hid (fun k (hk : k = w2.heap.size) => P4.off_lt (k := k) (by have := (o3.lt w2.heap.size rfl).2; omega))
    have L4 := hid (P2.later P4 (Nat.le_refl _))
    have P4 := P4.lower T3.size
    have P2 := P2.below b4
    have o3 := own_below o3' b4
    have EQ := hid (show pxs ps4 = pxs ps2 by rw [E4.out, E2.out])
    clear b4 T3 e4 o3' T2
    go_wp2_with fail
    refine (eqIntSS_any _ _ _ _ _ _ _ _ _ _ _ P4 P2 EQ.out).mono ?_
    rintro e w5 ⟨rfl, x5⟩
    have P2 := P2.ext x5
    have P4 := P4.ext x5
    have o3 := own_ext o3 x5
    have T5 := below_next T4 x5.below
    clear T4 x5
    go_wp2_with fail
    refine (toIntS_any _ _ _ z0 _ (S.below T5) hn').mono ?_
    rintro e w6 ⟨rfl, o6, b6⟩
    have T6 := below_next T5 b6
    have P2 := P2.below b6
    have P4 := P4.below b6
    have o3 := own_below o3 b6
    clear b6 T5
    go_wp2_with fail
    refine (eqIntS_any _ _ _ _ _ _ _ _ _ (own_sl o3) (own_sl o6)).mono ?_
    rintro e w' ⟨rfl, q6, rfl⟩
    have P2 := P2.drewN q6
    have P4 := P4.drewN q6
    have o3 := own_drewN o3 q6
    have T6 := below_drewN T6 q6
    clear o6
    go_wp2_with fail
    refine (markIntS_any _ _ _ _ 1 rfl _ _ _ o3 hn' (by omega)).mono ?_
    rintro e w7 ⟨rfl, o3', g7⟩
    have T7 := T6.grown g7 T6.size (fun k hk => (o3.lt k hk).1)
    have P2 := P2.kept g7 (fun k hk => by simp [Value.ownBlock] at hk; exact Q2.out k hk.symm)
    have P4 := P4.kept g7 (fun k hk => by simp [Value.ownBlock] at hk; exact Q4.out k hk.symm)
    clear o3 o3' T6 g7
    go_wp2_with fail
    refine (eqIntSS_any _ _ _ _ _ _ _ _ _ _ _ P4 P2 EQ.out).mono ?_
    rintro e w8 ⟨rfl, x8⟩
    have P2 := P2.ext x8
    have P4 := P4.ext x8
    have T8 := below_next T7 x8.below
    clear T7 x8
    go_wp2_with fail
    refine (markIntSS_any _ _ _ 1 ps4 _ _ P4 hk4 (by omega)).mono ?_
    rintro e w9 ⟨qs, rfl, P9, M9, t9⟩
    have T9 := t9.below P4 T8 (Nat.le_refl _) T8.size
    have P2 := P2.turned t9 L4.out
    have M9 := hid M9
    clear t9 T8 P4
    have hko := offs_le P9.small k4
    generalize hO : 1 + offs qs k4 = O at *
    have HO := hid hO
    have hOb : O ≤ 1682 := by omega
    clear hO hko
    go_wp2_with fail
    refine (heldIntSS_any _ _ _ 1 qs _ _ P9 M9.out hk4 (by omega)).mono ?_
    rintro e w10 ⟨rfl, rfl⟩
    rw [HO.out]
    go_wp2_with fail
    refine (toIntS_any _ _ _ z0 _ (S.below T9) hn').mono ?_
    rintro e w11 ⟨rfl, o11, b11⟩
    have T11 := below_next T9 b11
    have P2 := P2.below b11
    have P9 := P9.below b11
    clear b11 T9
    go_wp2_with fail
    refine (pagesI_any _ _ _ z0 a1 _ (own_sl o11)).mono ?_
    rintro e w12 ⟨B12, k12, d12, rfl, hk12, b12, ps12, P12, e12⟩
    have E12 := hid (show pxs ps12 = pxs ps2 by rw [e12, E2.out])
    have T12 := below_next T11 b12
    have P2 := P2.below b12
    have P9 := P9.below b12
    clear b12 T11 o11 e12
    go_wp2_with fail
    refine (eqIntSS_any _ _ _ _ _ _ _ _ _ _ _ P12 P2 E12.out).mono ?_
    rintro e w13 ⟨rfl, x13⟩
    have P9 := P9.ext x13
    have T13 := below_next T12 x13.below
    clear T12 x13 P12 P2
    go_wp2_with fail
    refine (heldIntSS_any _ _ _ 1 qs _ _ P9 M9.out hk4 (by omega)).mono ?_
    rintro e w14 ⟨rfl, rfl⟩
    rw [HO.out]
    go_wp2_with fail
    go_ret
    exact ⟨rfl, T13⟩
end Go.Proofs.Ytocaopabpjfhhaa.fnExactPagesOf
