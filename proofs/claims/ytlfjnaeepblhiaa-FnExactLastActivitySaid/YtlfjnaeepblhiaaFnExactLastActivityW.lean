/- The walk of FnExactLastActivity: it returns true and turns nothing that was there. -/
import Derived.Test.YtlfjnaeepblhiaaLastAcS
namespace Go.Proofs.Ytlfjnaeepblhiaa.fnExactLastActivity
open Go.RowKit
set_option linter.unusedVariables false
set_option linter.unusedSimpArgs false
set_option maxHeartbeats 1000000 in
theorem walk (a0 : Option Addr) (len0 cap0 : Nat) (z0 : List Ac) (a1 : ByteArray) (w : World) (w0 : Sl w a0 len0 cap0 5 (acs z0) ∧ acOk z0) (w1 : a1.size ≤ maxLen) :
    Calls Try.prog 4 #[.slice a0 len0 cap0, .string a1] w fun e w' => e = .returned (.bool true) ∧ Below w.heap.size w w' := by
  obtain ⟨S, hok⟩ := w0
  have HOK := hid hok
  clear hok
  have hk1 : a1.size ≤ 9223372036854775807 := by unfold maxLen at w1; omega
  clear w1
  by_cases hk : 1048576 < a1.size
  · go_enter Try.func4, Try.ntmps4
    go_wp2
    go_ret
    exact ⟨rfl, Below.refl _ _⟩
  obtain ⟨e, f, a, b, s, p, hV⟩ : ∃ e f a b s p, lastV z0 a1 = ((e, f, a, b, s), p) := ⟨_, _, _, _, _, _, rfl⟩
  have CS := fun A n c W (hS : Sl W A n c 5 (acs z0)) => lastS_any A n c z0 a1 W hS HOK.out
  have CI := fun A n c W (hS : Sl W A n c 5 (acs z0)) => lastIm_any A n c z0 a1 W hS HOK.out
  rw [hV] at CS CI
  dsimp only [AcRes] at CS CI
  clear hV
  have hQ := acQ_yes e f a b s
  go_enter Try.func4, Try.ntmps4
  go_wp2_with fail
  refine (szActivityS_any _ _ _ z0 1048576 _ S (by omega) (by omega) HOK.out).mono ?_
  rintro e1 w1 ⟨r, rfl, r0, r1, r2, x1⟩
  have T1 := x1.below
  by_cases hr : r < 0
  · clear r2 x1
    go_wp2_with fail
    go_ret
    exact ⟨rfl, T1⟩
  · have hn : len0 ≤ 1048576 := by have := r2 (by omega); omega
    clear r2 x1
    go_wp2_with fail
    refine (toActivityS_any _ _ _ z0 _ (S.below T1) hn).mono ?_
    rintro e1 w2 ⟨rfl, o2, b2⟩
    have T2 := below_next T1 b2
    clear b2 T1
    go_wp2_with fail
    refine (CS _ _ _ _ (own_sl o2)).mono ?_
    rintro e1 w3 ⟨rfl, x3⟩
    have T3 := (below_next T2 x3.below).alloc (below_next T2 x3.below).size (.cells #[.int .i64 e, .int .i64 f, .string a, .string b, .string s] 29)
    have h6 : (w3.alloc (.cells #[.int .i64 e, .int .i64 f, .string a, .string b, .string s] 29)).heap[w3.heap.size]? = some (.cells #[.int .i64 e, .int .i64 f, .string a, .string b, .string s] 29 (0, 0)) := alloc_new' rfl
    clear o2 x3 T2 CS
    go_wp2_with fail
    refine (toActivityS_any _ _ _ z0 _ (S.below T3) hn).mono ?_
    rintro e1 w4 ⟨rfl, o4, b4⟩
    rw [show (w3.alloc (.cells #[.int .i64 e, .int .i64 f, .string a, .string b, .string s] 29)).heap.size = w3.heap.size + 1 by simp] at o4
    have T4 := below_next T3 b4
    have h6 := (b4.block _ (Array.getElem?_eq_some_iff.1 h6).1).trans h6
    clear b4 T3
    go_wp2_with fail
    refine (CI _ _ _ _ (own_sl o4)).mono ?_
    rintro e1 w5 ⟨rfl, x5⟩
    have h6 := (x5.block (Array.getElem?_eq_some_iff.1 h6).1).trans h6
    have o5 := own_ext o4 x5
    have T5 := below_next T4 x5.below
    have h9 : (w5.alloc (.cells #[.int .i64 e, .int .i64 f, .string a, .string b, .string s] 29)).heap[w5.heap.size]? = some (.cells #[.int .i64 e, .int .i64 f, .string a, .string b, .string s] 29 (0, 0)) := alloc_new' rfl
    have h6 := alloc_old (o := (.cells #[.int .i64 e, .int .i64 f, .string a, .string b, .string s] 29)) h6
    have c0 := cell_of_row _ w3.heap.size 0 _ _ _ h6
    have c1 := cell_of_row _ w3.heap.size 1 _ _ _ h6
    have c2 := cell_of_row _ w3.heap.size 2 _ _ _ h6
    have c3 := cell_of_row _ w3.heap.size 3 _ _ _ h6
    have c4 := cell_of_row _ w3.heap.size 4 _ _ _ h6
    have d0 := cell_of_row _ w5.heap.size 0 _ _ _ h9
    have d1 := cell_of_row _ w5.heap.size 1 _ _ _ h9
    have d2 := cell_of_row _ w5.heap.size 2 _ _ _ h9
    have d3 := cell_of_row _ w5.heap.size 3 _ _ _ h9
    have d4 := cell_of_row _ w5.heap.size 4 _ _ _ h9
    have o5 := o5.alloc (.cells #[.int .i64 e, .int .i64 f, .string a, .string b, .string s] 29)
    have T5 := T5.alloc T5.size (.cells #[.int .i64 e, .int .i64 f, .string a, .string b, .string s] 29)
    clear h6 h9 o4 x5 T4 CI
    go_wp2_with (go_at_call 15; refine (eqActivity_any _ _ _ _ _ _ _ _ _ _ _).mono ?_; rintro e1 w6 ⟨rfl, x6⟩; have o6 := own_ext o5 x6; have T6 := below_next T5 x6.below; clear o5 T5 x6)
    refine (toActivityS_any _ _ _ z0 _ (S.below T6) hn).mono ?_
    rintro e1 w7 ⟨rfl, o7, b7⟩
    have T7 := below_next T6 b7
    have o8 := own_below o6 b7
    clear o6 b7 T6
    go_wp2_with fail
    refine (eqActivityS_any _ _ _ _ _ _ z0 z0 _ (own_sl o8) (own_sl o7)).mono ?_
    rintro e1 w8 ⟨rfl, x8⟩
    have T8 := below_next T7 x8.below
    clear o7 o8 x8 T7
    go_wp2_with fail
    go_ret
    exact ⟨rfl, T8⟩
end Go.Proofs.Ytlfjnaeepblhiaa.fnExactLastActivity
