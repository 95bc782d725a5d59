/- The walk of FnDueAt: it returns true and turns nothing that was there. -/
import Derived.Test.YtbnoonaefcogdaaDrawDel
namespace Go.Proofs.Ytbnoonaefcogdaa.fnDueAt
open Go.RowKit
set_option linter.unusedVariables false
set_option linter.unusedSimpArgs false
set_option maxHeartbeats 1000000 in
theorem walk (a0 : Option Addr) (len0 cap0 : Nat) (z0 : List Int) (w : World) (w0 : Row .u8 w a0 len0 cap0 z0) :
    Calls Try.prog 5 #[.slice a0 len0 cap0] w fun e w' => e = .returned (.bool true) ∧ Below w.heap.size w w' := by
  have hmax := w0.sl.max
  have hcap := w0.sl.cap
  unfold maxLen at hmax
  by_cases hn : 1048576 < len0
  · go_enter Try.func5, Try.ntmps5
    go_wp2
    go_ret
    exact ⟨rfl, Below.refl _ _⟩
  · go_enter Try.func5, Try.ntmps5
    go_wp2_with fail
    refine (drawDueAt_any _ _ _ _ _ w0).mono ?_
    rintro e w1 ⟨B1, k1, d1, ys, q, rfl, o1, hok, hk1, q0, q1, T1⟩
    have HOK := hid hok
    clear w0 hmax hcap hn hok
    have hl1 := own_count o1 dlC_len (by omega)
    have CI := fun A n c W (hW : Sl W A n c 4 (dls ys)) => dueI_any A n c ys q W hW HOK.out
    have CS := fun A n c W (hW : Sl W A n c 4 (dls ys)) => dueS_any A n c ys q W hW HOK.out
    have C1 := fun A n c W (hW : Sl W A n c 4 (dls ys)) => dueI_any A n c ys (q + 1) W hW HOK.out
    have C2 := fun A n c W (hW : Sl W A n c 4 (dls ys)) => dueI_any A n c ys 1000000000 W hW HOK.out
    have hw := IntWalk.i64_in (q + 1) ⟨by omega, by omega⟩
    cases hv : dlV ys with
    | false =>
      rw [due_no hv] at CI CS
      clear hv hl1 C1 C2
      go_wp2_with fail
      refine (CI _ _ _ _ (own_sl o1)).mono ?_
      rintro e w2 ⟨rfl, x2⟩
      go_wp2_with fail
      refine (CS _ _ _ _ ((own_sl o1).ext x2)).mono ?_
      rintro e w3 ⟨rfl, x3⟩
      have T3 := below_next (below_next T1 x2.below) x3.below
      clear x2 x3 o1 T1 CI CS
      go_wp2_with (go_at_call 9; refine (alive_any _).mono ?_; rintro e w' ⟨rfl, rfl⟩)
      go_ret
      exact ⟨rfl, T3⟩
    | true =>
      rw [due_yes hv] at CI CS C1 C2
      rw [due_all hv, ← hl1] at C2
      have hle := due_later (xs := ys) (a := q) (b := q + 1) (by omega)
      clear hv hl1
      generalize dueN ys q = x at *
      generalize dueN ys (q + 1) = y at *
      go_wp2_with fail
      refine (CI _ _ _ _ (own_sl o1)).mono ?_
      rintro e w2 ⟨rfl, x2⟩
      have o2 := own_ext o1 x2
      have T2 := below_next T1 x2.below
      clear o1 x2 T1 CI
      go_wp2_with fail
      refine (CS _ _ _ _ (own_sl o2)).mono ?_
      rintro e w3 ⟨rfl, x3⟩
      have o3 := own_ext o2 x3
      have T3 := below_next T2 x3.below
      clear o2 x3 T2 CS
      go_wp2_with fail
      refine (C1 _ _ _ _ (own_sl o3)).mono ?_
      rintro e w4 ⟨rfl, x4⟩
      have o4 := own_ext o3 x4
      have T4 := below_next T3 x4.below
      have t1 : decide ((x : Int) ≤ (y : Int)) = true := by simp; omega
      clear o3 x4 T3 C1
      go_wp2_with fail
      refine (C2 _ _ _ _ (own_sl o4)).mono ?_
      rintro e w5 ⟨rfl, x5⟩
      have T5 := below_next T4 x5.below
      go_wp2_with fail
      go_ret
      exact ⟨rfl, T5⟩
end Go.Proofs.Ytbnoonaefcogdaa.fnDueAt
