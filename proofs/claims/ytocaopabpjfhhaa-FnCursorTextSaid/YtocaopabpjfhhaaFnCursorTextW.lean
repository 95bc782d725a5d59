/- The walk of FnCursorText: it returns true and turns nothing that was there. -/
import Derived.Test.YtocaopabpjfhhaaCursorLaw
import Derived.Test.YtocaopabpjfhhaaDraw
namespace Go.Proofs.Ytocaopabpjfhhaa.fnCursorText
open Go.RowKit
set_option linter.unusedVariables false

theorem walk (a0 : Option Addr) (len0 cap0 : Nat) (z0 : List Int) (w : World) (w0 : Row .u8 w a0 len0 cap0 z0) :
    Calls Try.prog 8 #[.slice a0 len0 cap0] w fun e w' => e = .returned (.bool true) ∧ Below w.heap.size w w' := by
  have hmax := w0.sl.max
  have hcap := w0.sl.cap
  unfold maxLen at hmax
  by_cases hn : 1048576 < len0
  · go_enter Try.func8, Try.ntmps8
    go_wp2
    go_ret
    exact ⟨rfl, Below.refl _ _⟩
  · go_enter Try.func8, Try.ntmps8
    go_wp2_with fail
    refine (drawCursor_any _ _ _ _ _ w0).mono ?_
    rintro e w1 ⟨x, m, rfl, x0, x1, m0, m1, B1⟩
    clear w0 hmax hcap
    by_cases h : (0 ≤ x ∧ x ≤ 40) ∧ (1 ≤ m ∧ m ≤ 40)
    · have he : (cursorB x m).toList.isEmpty = false := by
        rw [str_empty]; refine decide_eq_false (fun e => ?_)
        have h2 := cursor_list h.1 h.2
        rw [e] at h2
        simp at h2
      have he2 : (cursorB x m).toList ≠ [] := by intro e; rw [e] at he; simp at he
      have hq : (readC (cursorB x m) m == x) = true := by simpa using readC_cursor h.1 h.2
      clear h
      go_wp2_with (first
        | (go_at_call 18; refine (cursorI_any _ _ _).mono ?_; rintro e w' ⟨rfl, rfl⟩)
        | (go_at_call 17; refine (cursorS_any _ _ _).mono ?_; rintro e w' ⟨rfl, rfl⟩)
        | (go_at_call 20; refine (readI_any _ _ _).mono ?_; rintro e w' ⟨rfl, rfl⟩))
      go_ret
      exact ⟨rfl, B1⟩
    · have e := cursorB_no h
      have he : (cursorB x m).toList.isEmpty = true := by rw [str_empty]; exact decide_eq_true e
      have he2 : (cursorB x m).toList = [] := List.isEmpty_iff.1 he
      have hq : (readC (cursorB x m) m == -1) = true := by rw [e, readC_empty]; rfl
      clear h e
      go_wp2_with (first
        | (go_at_call 18; refine (cursorI_any _ _ _).mono ?_; rintro e w' ⟨rfl, rfl⟩)
        | (go_at_call 17; refine (cursorS_any _ _ _).mono ?_; rintro e w' ⟨rfl, rfl⟩)
        | (go_at_call 20; refine (readI_any _ _ _).mono ?_; rintro e w' ⟨rfl, rfl⟩)
        | (go_at_call 28; refine (alive_any _).mono ?_; rintro e w' ⟨rfl, rfl⟩))
      go_ret
      exact ⟨rfl, B1⟩
end Go.Proofs.Ytocaopabpjfhhaa.fnCursorText
