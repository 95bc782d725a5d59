/- The contracts of the draws of moduli, exponents, numbers and keys. -/
import Derived.Test.YthbjbodkbpbbaaaDraw
import Derived.Test.YthbjbodkbpbbaaaModuli
namespace Go.Proofs.Ythbjbodkbpbbaaa
open Go.RowKit
set_option linter.unusedVariables false

theorem modulus_any (g p : Nat) (w : World) (h : Rd w g p) (hp : p ≤ 90000) :
    Calls Try.prog 43 #[.pointer (some ⟨g, 0, none⟩)] w fun e w' => ∃ q : Int, e = .returned (.int .i64 q) ∧ 0 ≤ q ∧ q ≤ 1000001 ∧ Turn w w' g p 2 := by
  go_enter Try.func43, Try.ntmps43
  go_wp2_with fail
  refine (pick_any _ _ _ _ h (by omega) (by omega) (by omega)).mono ?_
  rintro e w1 ⟨q, rfl, q0, q1, R1, G1⟩
  have hgl := R1.lt
  go_wp2_with fail
  refine (pick_any _ _ _ _ ((R1.alloc _).alloc _) (by omega) (by omega) (by omega)).mono ?_
  rintro e w2 ⟨q2, rfl, r0, r1, R2, G2⟩
  obtain ⟨x, hx, cx⟩ := lit_at (B := w1.heap.size + 1) (L := [0, 0, 0, 0, 1, 2, 3, 4, 5, 6]) (alloc_new (by simp)) G2 (by omega) r0 (by simpa using r1)
  have x0 : 0 ≤ x ∧ x ≤ 6 := by simp at hx; omega
  obtain ⟨y, hy, cy⟩ := lit_at (B := w1.heap.size) (L := [2 + q, 1000000, 97, 3233, 1, 0, 1000001]) (alloc_old (alloc_new rfl)) G2 (by omega) x0.1 (by simp; omega)
  have y0 : 0 ≤ y ∧ y ≤ 1000001 := by simp at hy; omega
  obtain ⟨x0, x3⟩ := x0
  have T : Turn w w2 g p 2 := ⟨p + 1 + 1, by omega, by omega, R2, G1.trans ((World.grownBy_alloc _ _ _).trans ((World.grownBy_alloc _ _ _).trans G2))⟩
  clear hx hy R1 R2 G1 G2 h
  go_wp2_with fail
  go_ret
  exact ⟨y, rfl, y0.1, y0.2, T⟩
set_option maxHeartbeats 4000000 in
theorem below_any (g p : Nat) (m : Int) (w : World) (h : Rd w g p) (hp : p ≤ 90000) (m0 : 0 ≤ m) (m1 : m ≤ 1000001) :
    Calls Try.prog 45 #[.pointer (some ⟨g, 0, none⟩), .int .i64 m] w fun e w' => ∃ q : Int, e = .returned (.int .i64 q) ∧ 0 ≤ q ∧ q ≤ 3000000 ∧ Turn w w' g p 2 := by
  have hd : Rd w.drew g p := h.drewN 1
  by_cases hm : 1 < m
  · go_enter Try.func45, Try.ntmps45
    go_wp2
    go_region_with (go_at_call 44; first
      | ((with_reducible refine (pick_any _ _ _ _ hd (by omega) (by omega) (by omega)).mono ?_); rintro e w5 ⟨q5, rfl, r0, r1, R5, G5⟩; have hwr := IntWalk.i64_in (q5 * 3907) (by omega); have hn : 0 ≤ q5 * 3907 := by omega
         have ht := Int.tmod_eq_emod_of_nonneg (b := m) hn
         have ht0 := Int.emod_nonneg (q5 * 3907) (show m ≠ 0 by omega)
         have ht1 := Int.emod_lt_of_pos (q5 * 3907) (show 0 < m by omega))
      | ((with_reducible refine (pick_any _ _ _ _ R5 (by omega) (by omega) (by omega)).mono ?_); rintro e w6 ⟨q6, rfl, s0, s1, R6, G6⟩
         have hd0 : 0 ≤ q6 / 13 := by omega
         have hqd := Int.tdiv_eq_ediv_of_nonneg (b := 13) s0
         have hdw := IntWalk.i64_in (q6 / 13) (by omega)
         have hpm : 0 ≤ q6 / 13 * m ∧ q6 / 13 * m ≤ 1000001 := by rcases (show q6 / 13 = 0 ∨ q6 / 13 = 1 by omega) with e | e <;> rw [e] <;> omega
         have hwp := IntWalk.i64_in (q6 / 13 * m) (by omega)
         have hws := IntWalk.i64_in (q5 * 3907 % m + q6 / 13 * m) (by omega)))
    all_goals
      have T : Turn w w6 g p 2 := ⟨p + 1 + 1, by omega, by omega, R6, (show w.grownBy w5 (some g) from ⟨G5.os, G5.tape, G5.output, G5.size, G5.block⟩).trans G6⟩
      clear R5 R6 G5 G6 hwr ht hqd hdw hwp hws
      go_wp2
      go_ret
      exact ⟨q5 * 3907 % m + q6 / 13 * m, rfl, by omega, by omega, T⟩
  · have hm1 : m ≤ 1 := by omega
    clear hm
    go_enter Try.func45, Try.ntmps45
    go_wp2
    go_region_with (go_at_call 44; first
      | ((with_reducible refine (pick_any _ _ _ _ hd (by omega) (by omega) (by omega)).mono ?_); rintro e w5 ⟨q5, rfl, r0, r1, R5, G5⟩; have hwr := IntWalk.i64_in (q5 * 3907) (by omega); have hn : 0 ≤ q5 * 3907 := by omega
         have ht := Int.tmod_eq_emod_of_nonneg (b := (1 : Int)) hn
         have ht0 := Int.emod_nonneg (q5 * 3907) (show (1 : Int) ≠ 0 by omega)
         have ht1 := Int.emod_lt_of_pos (q5 * 3907) (show 0 < (1 : Int) by omega))
      | ((with_reducible refine (pick_any _ _ _ _ R5 (by omega) (by omega) (by omega)).mono ?_); rintro e w6 ⟨q6, rfl, s0, s1, R6, G6⟩
         have hd0 : 0 ≤ q6 / 13 := by omega
         have hqd := Int.tdiv_eq_ediv_of_nonneg (b := 13) s0
         have hdw := IntWalk.i64_in (q6 / 13) (by omega)
         have hpm : 0 ≤ q6 / 13 * m ∧ q6 / 13 * m ≤ 1000001 := by rcases (show q6 / 13 = 0 ∨ q6 / 13 = 1 by omega) with e | e <;> rw [e] <;> omega
         have hwp := IntWalk.i64_in (q6 / 13 * m) (by omega)
         have hws := IntWalk.i64_in (q5 * 3907 % (1 : Int) + q6 / 13 * m) (by omega)))
    all_goals
      have T : Turn w w6 g p 2 := ⟨p + 1 + 1, by omega, by omega, R6, (show w.grownBy w5 (some g) from ⟨G5.os, G5.tape, G5.output, G5.size, G5.block⟩).trans G6⟩
      clear R5 R6 G5 G6 hwr ht hqd hdw hwp hws
      go_wp2
      go_ret
      exact ⟨q6 / 13 * m, rfl, by omega, by omega, T⟩
end Go.Proofs.Ythbjbodkbpbbaaa
