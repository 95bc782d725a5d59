/- The walk of FnExactPauseAfter: it returns true and turns nothing that was there. -/
import Derived.Test.YtocaopabpjfhhaaPause
namespace Go.Proofs.Ytocaopabpjfhhaa.fnExactPauseAfter
open Go.RowKit

theorem walk (a0 : Int) (w : World) (_w0 : (Lit.int .i64 a0).wf = true) :
    Calls Try.prog 3 #[.int .i64 a0] w fun e w' => e = .returned (.bool true) ∧ Below w.heap.size w w' := by
  go_enter Try.func3, Try.ntmps3
  go_wp2_with (first
    | (go_at_call 16; refine (pauseI_any _ _).mono ?_; rintro e w' ⟨rfl, rfl⟩)
    | (go_at_call 15; refine (pauseS_any _ _).mono ?_; rintro e w' ⟨rfl, rfl⟩))
  go_ret
  exact ⟨rfl, Below.refl _ _⟩
end Go.Proofs.Ytocaopabpjfhhaa.fnExactPauseAfter
