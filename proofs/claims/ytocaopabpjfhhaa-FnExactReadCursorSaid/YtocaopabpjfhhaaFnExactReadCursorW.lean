/- The walk of FnExactReadCursor: it returns true and turns nothing that was there. -/
import Derived.Test.YtocaopabpjfhhaaCursor
namespace Go.Proofs.Ytocaopabpjfhhaa.fnExactReadCursor
open Go.RowKit

theorem walk (a0 : ByteArray) (a1 : Int) (w : World) (_w0 : a0.size ≤ maxLen) (_w1 : (Lit.int .i64 a1).wf = true) :
    Calls Try.prog 5 #[.string a0, .int .i64 a1] w fun e w' => e = .returned (.bool true) ∧ Below w.heap.size w w' := by
  unfold maxLen at _w0
  go_enter Try.func5, Try.ntmps5
  go_wp2_with (first
    | (go_at_call 20; refine (readI_any _ _ _).mono ?_; rintro e w' ⟨rfl, rfl⟩)
    | (go_at_call 19; refine (readS_any _ _ _).mono ?_; rintro e w' ⟨rfl, rfl⟩))
  all_goals
    go_ret
    exact ⟨rfl, Below.refl _ _⟩
end Go.Proofs.Ytocaopabpjfhhaa.fnExactReadCursor
