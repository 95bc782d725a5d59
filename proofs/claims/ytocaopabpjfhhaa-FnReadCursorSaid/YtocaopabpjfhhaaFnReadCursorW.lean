/- The walk of FnReadCursor: it returns true and turns nothing that was there. -/
import Derived.Test.YtocaopabpjfhhaaCursorLaw
import Derived.Test.YtocaopabpjfhhaaDrawCur
namespace Go.Proofs.Ytocaopabpjfhhaa.fnReadCursor
open Go.RowKit
set_option linter.unusedVariables false

theorem walk (a0 : Option Addr) (len0 cap0 : Nat) (z0 : List Int) (w : World) (w0 : Row .u8 w a0 len0 cap0 z0) :
    Calls Try.prog 11 #[.slice a0 len0 cap0] w fun e w' => e = .returned (.bool true) ∧ Below w.heap.size w w' := by
  have hmax := w0.sl.max
  have hcap := w0.sl.cap
  unfold maxLen at hmax
  by_cases hn : 1048576 < len0
  · go_enter Try.func11, Try.ntmps11
    go_wp2
    go_ret
    exact ⟨rfl, Below.refl _ _⟩
  · go_enter Try.func11, Try.ntmps11
    go_wp2_with fail
    refine (drawRead_any _ _ _ _ _ w0).mono ?_
    rintro e w1 ⟨s, m, rfl, hs, m0, m1, B1⟩
    clear w0 hmax hcap
    rcases readC_range s m with h | ⟨r0, r1, hm, hc⟩
    · have hb : (readC s m == -1) = true := by simpa using h
      have hlt : readC s m < 0 := by omega
      clear h
      go_wp2_with (first
        | (go_at_call 19; refine (readS_any _ _ _).mono ?_; rintro e w' ⟨rfl, rfl⟩)
        | (go_at_call 20; refine (readI_any _ _ _).mono ?_; rintro e w' ⟨rfl, rfl⟩)
        | (go_at_call 28; refine (alive_any _).mono ?_; rintro e w' ⟨rfl, rfl⟩))
      go_ret
      exact ⟨rfl, B1⟩
    · have hb : (readC s (m + 1) == -1) = true := by simpa using readC_other r0
      have hq : ((cursorB (readC s m) m).toList == s.toList) = true := by rw [hc]; simp
      clear hc hm
      go_wp2_with (first
        | (go_at_call 19; refine (readS_any _ _ _).mono ?_; rintro e w' ⟨rfl, rfl⟩)
        | (go_at_call 20; refine (readI_any _ _ _).mono ?_; rintro e w' ⟨rfl, rfl⟩)
        | (go_at_call 18; refine (cursorI_any _ _ _).mono ?_; rintro e w' ⟨rfl, rfl⟩))
      go_ret
      exact ⟨rfl, B1⟩
end Go.Proofs.Ytocaopabpjfhhaa.fnReadCursor
