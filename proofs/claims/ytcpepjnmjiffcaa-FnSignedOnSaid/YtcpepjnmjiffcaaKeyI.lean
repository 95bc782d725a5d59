/- The contract of the program's KeyValid. -/
import Derived.Test.YtcpepjnmjiffcaaKeys
namespace Go.Proofs.Ytcpepjnmjiffcaa
open Go.RowKit
set_option linter.unusedVariables false
theorem keyI_any (a b e : Int) (w : World) : Calls Try.prog 40 #[keyA a b e] w fun e' w' => e' = .returned (.bool (keyV a b e)) ∧ Ext.of w w' := by
  go_enter Try.func40, Try.ntmps40
  have hE : Ext.of w (w.alloc (.cells #[.int .i64 a, .int .i64 b, .int .i64 e] 30)) := (Ext.of.refl _).alloc _
  go_wp2_with fail
  have i0 : ∀ w, (Instr.index 85 (.agg #[.int .i64 a, .int .i64 b]) (.int .i64 0)).run Try.prog w = .ok (.int .i64 a) w := fun _ => by kernel_rfl
  have i1 : ∀ w, (Instr.index 85 (.agg #[.int .i64 a, .int .i64 b]) (.int .i64 1)).run Try.prog w = .ok (.int .i64 b) w := fun _ => by kernel_rfl
  go_loop [4, 10] (fun v i => ∃ k : Nat, k ≤ 2 ∧ i = .int .i64 k ∧ Hid ((1 ≤ k → inB a 11 997 = true ∧ primeV a = true) ∧ (2 ≤ k → inB b 11 997 = true ∧ primeV b = true))) (fun v i => 2 - (intOf i).toNat)
  case atStart => exact ⟨0, by omega, rfl, hid_ ⟨fun h => by omega, fun h => by omega⟩⟩
  case round =>
    obtain ⟨k, k2, rfl, T⟩ := hrel
    obtain rfl | rfl | rfl : k = 0 ∨ k = 1 ∨ k = 2 := by omega
    · cases e1 : inB a 11 997 with
      | false =>
        have hk := hid_ (keyV_no (a := a) (b := b) (e := e) (fun h => inB_not e1 h.1))
        clear T
        go_wp2_with (first | (go_at_call 39; refine (within_any _ _ _ _).mono ?_; rintro e' w' ⟨rfl, rfl⟩) | (go_at_call 62; refine (primeI_any _ _).mono ?_; rintro e' w' ⟨rfl, rfl⟩) | (go_at_call 63; refine (invX_any a b e _ (inB_of e1) (inB_of e2) (inB_of e5)).mono ?_; rintro e' w' ⟨rfl, hX⟩))
        go_ret
        exact ⟨ret_bool hk.out.symm, hE⟩
      | true =>
        cases e3 : primeV a with
        | false =>
          have hk := hid_ (keyV_no (a := a) (b := b) (e := e) (fun h => primeV_not e3 h.2.2.1))
          clear T
          go_wp2_with (first | (go_at_call 39; refine (within_any _ _ _ _).mono ?_; rintro e' w' ⟨rfl, rfl⟩) | (go_at_call 62; refine (primeI_any _ _).mono ?_; rintro e' w' ⟨rfl, rfl⟩) | (go_at_call 63; refine (invX_any a b e _ (inB_of e1) (inB_of e2) (inB_of e5)).mono ?_; rintro e' w' ⟨rfl, hX⟩))
          go_ret
          exact ⟨ret_bool hk.out.symm, hE⟩
        | true =>
          clear T
          go_wp2_with (first | (go_at_call 39; refine (within_any _ _ _ _).mono ?_; rintro e' w' ⟨rfl, rfl⟩) | (go_at_call 62; refine (primeI_any _ _).mono ?_; rintro e' w' ⟨rfl, rfl⟩) | (go_at_call 63; refine (invX_any a b e _ (inB_of e1) (inB_of e2) (inB_of e5)).mono ?_; rintro e' w' ⟨rfl, hX⟩))
          go_round
          case rel => exact ⟨1, by omega, rfl, hid_ ⟨fun _ => ⟨trivial, trivial⟩, fun h => absurd h (by omega)⟩⟩
          case measure => simp [intOf]
    · cases e2 : inB b 11 997 with
      | false =>
        have hk := hid_ (keyV_no (a := a) (b := b) (e := e) (fun h => inB_not e2 h.2.1))
        clear T
        go_wp2_with (first | (go_at_call 39; refine (within_any _ _ _ _).mono ?_; rintro e' w' ⟨rfl, rfl⟩) | (go_at_call 62; refine (primeI_any _ _).mono ?_; rintro e' w' ⟨rfl, rfl⟩) | (go_at_call 63; refine (invX_any a b e _ (inB_of e1) (inB_of e2) (inB_of e5)).mono ?_; rintro e' w' ⟨rfl, hX⟩))
        go_ret
        exact ⟨ret_bool hk.out.symm, hE⟩
      | true =>
        cases e4 : primeV b with
        | false =>
          have hk := hid_ (keyV_no (a := a) (b := b) (e := e) (fun h => primeV_not e4 h.2.2.2.1))
          clear T
          go_wp2_with (first | (go_at_call 39; refine (within_any _ _ _ _).mono ?_; rintro e' w' ⟨rfl, rfl⟩) | (go_at_call 62; refine (primeI_any _ _).mono ?_; rintro e' w' ⟨rfl, rfl⟩) | (go_at_call 63; refine (invX_any a b e _ (inB_of e1) (inB_of e2) (inB_of e5)).mono ?_; rintro e' w' ⟨rfl, hX⟩))
          go_ret
          exact ⟨ret_bool hk.out.symm, hE⟩
        | true =>
          have T' := hid_ (T.out.1 (by omega))
          clear T
          go_wp2_with (first | (go_at_call 39; refine (within_any _ _ _ _).mono ?_; rintro e' w' ⟨rfl, rfl⟩) | (go_at_call 62; refine (primeI_any _ _).mono ?_; rintro e' w' ⟨rfl, rfl⟩) | (go_at_call 63; refine (invX_any a b e _ (inB_of e1) (inB_of e2) (inB_of e5)).mono ?_; rintro e' w' ⟨rfl, hX⟩))
          go_round
          case rel => exact ⟨2, by omega, rfl, hid_ ⟨fun _ => T'.out, fun _ => ⟨trivial, trivial⟩⟩⟩
          case measure => simp [intOf]
    · obtain ⟨t1, t2⟩ := T.out
      obtain ⟨e1, e3⟩ := t1 (by omega)
      obtain ⟨e2, e4⟩ := t2 (by omega)
      clear T t1 t2
      by_cases hne : a = b
      · subst hne
        have hk := hid_ (keyV_no (a := a) (b := a) (e := e) (fun h => h.2.2.2.2.1 rfl))
        clear e2 e4
        go_wp2_with (first | (go_at_call 39; refine (within_any _ _ _ _).mono ?_; rintro e' w' ⟨rfl, rfl⟩) | (go_at_call 62; refine (primeI_any _ _).mono ?_; rintro e' w' ⟨rfl, rfl⟩) | (go_at_call 63; refine (invX_any a b e _ (inB_of e1) (inB_of e2) (inB_of e5)).mono ?_; rintro e' w' ⟨rfl, hX⟩))
        go_ret
        exact ⟨ret_bool hk.out.symm, hE⟩
      · have hn : (a == b) = false := by simpa using hne
        cases e5 : inB e 3 1000 with
        | false =>
          have hk := hid_ (keyV_no (a := a) (b := b) (e := e) (fun h => inB_not e5 h.2.2.2.2.2.1))
          go_wp2_with (first | (go_at_call 39; refine (within_any _ _ _ _).mono ?_; rintro e' w' ⟨rfl, rfl⟩) | (go_at_call 62; refine (primeI_any _ _).mono ?_; rintro e' w' ⟨rfl, rfl⟩) | (go_at_call 63; refine (invX_any a b e _ (inB_of e1) (inB_of e2) (inB_of e5)).mono ?_; rintro e' w' ⟨rfl, hX⟩))
          go_ret
          exact ⟨ret_bool hk.out.symm, hE⟩
        | true =>
          have hv := hid_ (keyV_tests e1 e2 e3 e4 hne e5)
          go_wp2_with (first | (go_at_call 39; refine (within_any _ _ _ _).mono ?_; rintro e' w' ⟨rfl, rfl⟩) | (go_at_call 62; refine (primeI_any _ _).mono ?_; rintro e' w' ⟨rfl, rfl⟩) | (go_at_call 63; refine (invX_any a b e _ (inB_of e1) (inB_of e2) (inB_of e5)).mono ?_; rintro e' w' ⟨rfl, hX⟩))
          go_ret
          exact ⟨ret_bool (by rw [hv.out]; simp [hne]), hE.trans hX⟩
end Go.Proofs.Ytcpepjnmjiffcaa
