/- The walk of FnPauseAfter: it returns true and turns nothing that was there. -/
import Derived.Test.YtocaopabpjfhhaaPause
import Derived.Test.YtocaopabpjfhhaaDraw
namespace Go.Proofs.Ytocaopabpjfhhaa.fnPauseAfter
open Go.RowKit
set_option linter.unusedVariables false

theorem pause_yes {t : Int} (h : 1 ≤ t ∧ t ≤ 6) : 60 ≤ pauseF t ∧ pauseF t ≤ 61440 := by
  unfold pauseF
  rw [if_pos h]
  have := pow4 (t.toNat - 1) (by omega)
  omega
theorem pause_next {t : Int} (h : 1 ≤ t ∧ t ≤ 5) : pauseF (t + 1) = 4 * pauseF t := by
  unfold pauseF
  rw [if_pos (by omega), if_pos (by omega), show (t + 1).toNat - 1 = (t.toNat - 1) + 1 by omega, Int.pow_succ]
  omega
theorem walk (a0 : Option Addr) (len0 cap0 : Nat) (z0 : List Int) (w : World) (w0 : Row .u8 w a0 len0 cap0 z0) :
    Calls Try.prog 7 #[.slice a0 len0 cap0] w fun e w' => e = .returned (.bool true) ∧ Below w.heap.size w w' := by
  have hmax := w0.sl.max
  have hcap := w0.sl.cap
  unfold maxLen at hmax
  by_cases hn : 1048576 < len0
  · go_enter Try.func7, Try.ntmps7
    go_wp2
    go_ret
    exact ⟨rfl, Below.refl _ _⟩
  · go_enter Try.func7, Try.ntmps7
    go_wp2_with fail
    refine (drawPause_any _ _ _ _ _ w0).mono ?_
    rintro e w1 ⟨t, rfl, t0, t9, B1⟩
    clear w0 hmax hcap
    by_cases h : 1 ≤ t ∧ t ≤ 6
    · obtain ⟨p1, p2⟩ := pause_yes h
      by_cases h6 : t = 6
      · have hb : (t == 6) = true := by simpa using h6
        clear h h6
        go_wp2_with (first
          | (go_at_call 16; refine (pauseI_any _ _).mono ?_; rintro e w' ⟨rfl, rfl⟩)
          | (go_at_call 15; refine (pauseS_any _ _).mono ?_; rintro e w' ⟨rfl, rfl⟩))
        go_ret
        exact ⟨rfl, B1⟩
      · have hb : (t == 6) = false := by simpa using h6
        have hq : (pauseF (t + 1) == 4 * pauseF t) = true := by simpa using pause_next ⟨h.1, by omega⟩
        clear h h6
        go_wp2_with (first
          | (go_at_call 16; refine (pauseI_any _ _).mono ?_; rintro e w' ⟨rfl, rfl⟩)
          | (go_at_call 15; refine (pauseS_any _ _).mono ?_; rintro e w' ⟨rfl, rfl⟩))
        go_ret
        exact ⟨rfl, B1⟩
    · have e : pauseF t = -1 := by unfold pauseF; rw [if_neg h]
      have e0 : pauseF t < 0 := by omega
      have eb : (pauseF t == -1) = true := by simpa using e
      clear e h
      go_wp2_with (first
        | (go_at_call 16; refine (pauseI_any _ _).mono ?_; rintro e w' ⟨rfl, rfl⟩)
        | (go_at_call 15; refine (pauseS_any _ _).mono ?_; rintro e w' ⟨rfl, rfl⟩)
        | (go_at_call 28; refine (alive_any _).mono ?_; rintro e w' ⟨rfl, rfl⟩))
      go_ret
      exact ⟨rfl, B1⟩
end Go.Proofs.Ytocaopabpjfhhaa.fnPauseAfter
