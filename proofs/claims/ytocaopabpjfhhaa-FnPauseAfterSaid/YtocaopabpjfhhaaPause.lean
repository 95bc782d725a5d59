/- The contracts of PauseAfter, the program's and the reference's: both return pauseF. -/
import Derived.Test.YtocaopabpjfhhaaBase
namespace Go.Proofs.Ytocaopabpjfhhaa
open Go.RowKit

def pauseF (t : Int) : Int := if 1 ≤ t ∧ t ≤ 6 then 60 * 4 ^ (t.toNat - 1) else -1
theorem pow4 (k : Nat) (h : k ≤ 5) : (4 : Int) ^ k ≤ 1024 ∧ 1 ≤ (4 : Int) ^ k := by
  match k, h with
  | 0, _ => decide
  | 1, _ => decide
  | 2, _ => decide
  | 3, _ => decide
  | 4, _ => decide
  | 5, _ => decide
theorem ret_int {k : IntKind} {a b : Int} (h : a = b) : Ending.returned (.int k a) = .returned (.int k b) := by rw [h]

theorem pauseI_any (t : Int) (w : World) : Calls Try.prog 16 #[.int .i64 t] w fun e w' => e = .returned (.int .i64 (pauseF t)) ∧ w = w' := by
  by_cases h : 1 ≤ t ∧ t ≤ 6
  · have hb := inB_yes h
    obtain ⟨h1, h6⟩ := h
    go_enter Try.func16, Try.ntmps16
    go_wp2_with (go_at_call 46; refine (within_any _ _ _ _).mono ?_; rintro e w' ⟨rfl, rfl⟩)
    go_loop [3, 4] (fun p i => ∃ k : Nat, k ≤ 5 ∧ (k : Int) + 1 ≤ t ∧ i = .int .i64 ((k : Int) + 1) ∧ p = .int .i64 (60 * 4 ^ k)) (fun _ i => (t - intOf i).toNat)
    case atStart => exact ⟨0, by omega, by omega, rfl, rfl⟩
    case round =>
      obtain ⟨k, hk, hkt, rfl, rfl⟩ := hrel
      have hp := pow4 k hk
      by_cases hlt : (k : Int) + 1 < t
      · go_wp2
        go_round
        case rel => exact ⟨k + 1, by omega, by omega, by go_num, by rw [Int.pow_succ]; go_num⟩
        case measure => simp [intOf]; omega
      · go_wp2
        go_ret
        have : t = (k : Int) + 1 := by omega
        subst this
        exact ⟨ret_int (by rw [pauseF, if_pos (by omega)]; congr 2), rfl⟩
  · have hb := inB_no h
    have hn : pauseF t = -1 := by rw [pauseF, if_neg h]
    rw [hn]
    clear h hn
    go_enter Try.func16, Try.ntmps16
    go_wp2_with (go_at_call 46; refine (within_any _ _ _ _).mono ?_; rintro e w' ⟨rfl, rfl⟩)
    go_ret
    exact ⟨rfl, rfl⟩
theorem pauseS_any (t : Int) (w : World) : Calls Try.prog 15 #[.int .i64 t] w fun e w' => e = .returned (.int .i64 (pauseF t)) ∧ w = w' := by
  by_cases h : 1 ≤ t ∧ t ≤ 6
  · have hb := inB_yes h
    obtain ⟨h1, h6⟩ := h
    go_enter Try.func15, Try.ntmps15
    go_wp2_with (go_at_call 45; refine (l1In_any _ _ _ _).mono ?_; rintro e w' ⟨rfl, rfl⟩)
    go_loop [3, 4] (fun p i => ∃ k : Nat, k ≤ 5 ∧ (k : Int) + 1 ≤ t ∧ i = .int .i64 ((k : Int) + 1) ∧ p = .int .i64 (60 * 4 ^ k)) (fun _ i => (t - intOf i).toNat)
    case atStart => exact ⟨0, by omega, by omega, rfl, rfl⟩
    case round =>
      obtain ⟨k, hk, hkt, rfl, rfl⟩ := hrel
      have hp := pow4 k hk
      by_cases hlt : (k : Int) + 1 < t
      · go_wp2
        go_round
        case rel => exact ⟨k + 1, by omega, by omega, by go_num, by rw [Int.pow_succ]; go_num⟩
        case measure => simp [intOf]; omega
      · go_wp2
        go_ret
        have : t = (k : Int) + 1 := by omega
        subst this
        exact ⟨ret_int (by rw [pauseF, if_pos (by omega)]; congr 2), rfl⟩
  · have hb := inB_no h
    have hn : pauseF t = -1 := by rw [pauseF, if_neg h]
    rw [hn]
    clear h hn
    go_enter Try.func15, Try.ntmps15
    go_wp2_with (go_at_call 45; refine (l1In_any _ _ _ _).mono ?_; rintro e w' ⟨rfl, rfl⟩)
    go_ret
    exact ⟨rfl, rfl⟩
end Go.Proofs.Ytocaopabpjfhhaa
