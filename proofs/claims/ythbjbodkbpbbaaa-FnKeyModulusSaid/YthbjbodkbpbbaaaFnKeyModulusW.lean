/- The walk of FnKeyModulus: it returns true and turns nothing that was there. -/
import Derived.Test.YthbjbodkbpbbaaaPlainKeys
namespace Go.Proofs.Ythbjbodkbpbbaaa.fnKeyModulus
open Go.RowKit
set_option linter.unusedVariables false
set_option linter.unusedSimpArgs false
set_option maxHeartbeats 1000000 in
theorem walk (a0 : Option Addr) (len0 cap0 : Nat) (z0 : List Int) (w : World) (w0 : Row .u8 w a0 len0 cap0 z0) :
    Calls Try.prog 7 #[.slice a0 len0 cap0] w fun e w' => e = .returned (.bool true) ∧ Below w.heap.size w w' := by
  have hmax := w0.sl.max
  have hcap := w0.sl.cap
  unfold maxLen at hmax
  by_cases hn : 1048576 < len0
  · go_enter Try.func7, Try.ntmps7
    go_wp2
    go_ret
    exact ⟨rfl, Below.refl _ _⟩
  · go_enter Try.func7, Try.ntmps7
    go_wp2_with fail
    refine (drawKeyM_any _ _ _ _ _ w0).mono ?_
    rintro e' w1 ⟨a, b, e, rfl, T1⟩
    clear w0 hmax hcap hn
    have ks : (w1.alloc (.cells #[.int .i64 a, .int .i64 b, .int .i64 e] 36)).heap[w1.heap.size]? = some (.cells #[.int .i64 a, .int .i64 b, .int .i64 e] 36 (0, 0)) := alloc_new' rfl
    have TV := T1.alloc T1.size (.cells #[.int .i64 a, .int .i64 b, .int .i64 e] 36)
    have HK := hid (And.intro ks TV)
    clear ks TV
    go_wp2_with fail
    obtain ⟨ks, TV⟩ := HK.out
    clear HK
    revert ks TV
    generalize (w1.alloc (.cells #[.int .i64 a, .int .i64 b, .int .i64 e] 36)) = V
    intro ks TV
    have B0 := hid (cell_of_row V w1.heap.size 0 _ _ _ ks)
    have B1 := hid (cell_of_row V w1.heap.size 1 _ _ _ ks)
    have B2 := hid (cell_of_row V w1.heap.size 2 _ _ _ ks)
    have HTV := hid TV
    clear ks TV T1
    have fin : ∀ W, Ext.of V W → Below w.heap.size w W := fun W X => HTV.out.trans (X.below.mono HTV.out.size)
    have C0 := fun W => modI_any a b e W
    have C1 := fun W => modI_any b a e W
    have CS := fun W => modS_any a b e W
    cases hv : keyV a b e with
    | false =>
      rw [modF_no hv] at C0 CS
      rw [modF_no (by rw [keyV_flip]; exact hv)] at C1
      clear hv
      refine (C0 _).mono ?_
      rintro e' w2 ⟨rfl, X2⟩
      have bx0 := X2.cell B0.out
      have bx1 := X2.cell B1.out
      have bx2 := X2.cell B2.out
      go_wp2_with fail
      clear bx0 bx1 bx2
      refine (CS _).mono ?_
      rintro e' w3 ⟨rfl, x3⟩
      have X3 := X2.trans x3
      clear x3 X2
      have bx0 := X3.cell B0.out
      have bx1 := X3.cell B1.out
      have bx2 := X3.cell B2.out
      go_wp2_with fail
      clear bx0 bx1 bx2
      refine (C1 _).mono ?_
      rintro e' w4 ⟨rfl, x4⟩
      have X4 := X3.trans x4
      clear x4 X3
      have bx0 := X4.cell B0.out
      have bx1 := X4.cell B1.out
      have bx2 := X4.cell B2.out
      go_wp2_with (go_at_call 17; refine (alive_any _).mono ?_; rintro e w' ⟨rfl, rfl⟩)
      go_ret
      exact ⟨rfl, fin _ X4⟩
    | true =>
      obtain ⟨m, e1, e2, m0, m1, m2, m3, m4, m5⟩ := mod_facts hv
      rw [e1] at C0 CS
      rw [e2] at C1
      clear hv e1 e2
      have t0 : decide (m < 0) = false := by simp; omega
      have t1 : decide (m ≤ 1000000) = true := by simp; omega
      have t2 : (a == 0) = false := by simp; omega
      have t3 : (b == 0) = false := by simp; omega
      have a00 : ¬ a = 0 := by omega
      have b00 : ¬ b = 0 := by omega
      refine (C0 _).mono ?_
      rintro e' w2 ⟨rfl, X2⟩
      have bx0 := X2.cell B0.out
      have bx1 := X2.cell B1.out
      have bx2 := X2.cell B2.out
      go_wp2_with fail
      clear bx0 bx1 bx2
      refine (CS _).mono ?_
      rintro e' w3 ⟨rfl, x3⟩
      have X3 := X2.trans x3
      clear x3 X2
      have bx0 := X3.cell B0.out
      have bx1 := X3.cell B1.out
      have bx2 := X3.cell B2.out
      go_wp2_with fail
      clear bx0 bx1 bx2
      refine (C1 _).mono ?_
      rintro e' w4 ⟨rfl, x4⟩
      have X4 := X3.trans x4
      clear x4 X3
      have bx0 := X4.cell B0.out
      have bx1 := X4.cell B1.out
      have bx2 := X4.cell B2.out
      go_wp2_with fail
      go_ret
      exact ⟨rfl, fin _ X4⟩
end Go.Proofs.Ythbjbodkbpbbaaa.fnKeyModulus
