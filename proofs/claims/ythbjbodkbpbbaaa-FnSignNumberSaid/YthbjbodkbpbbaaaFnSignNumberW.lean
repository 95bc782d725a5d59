/- The walk of FnSignNumber: it returns true and turns nothing that was there. -/
import Derived.Test.YthbjbodkbpbbaaaDrawSg
import Derived.Test.YthbjbodkbpbbaaaPlainSign
namespace Go.Proofs.Ythbjbodkbpbbaaa.fnSignNumber
open Go.RowKit
set_option linter.unusedVariables false
set_option linter.unusedSimpArgs false
set_option maxHeartbeats 1000000 in
theorem walk (a0 : Option Addr) (len0 cap0 : Nat) (z0 : List Int) (w : World) (w0 : Row .u8 w a0 len0 cap0 z0) :
    Calls Try.prog 8 #[.slice a0 len0 cap0] w fun e w' => e = .returned (.bool true) ∧ Below w.heap.size w w' := by
  have hmax := w0.sl.max
  have hcap := w0.sl.cap
  unfold maxLen at hmax
  by_cases hn : 1048576 < len0
  · go_enter Try.func8, Try.ntmps8
    go_wp2
    go_ret
    exact ⟨rfl, Below.refl _ _⟩
  · go_enter Try.func8, Try.ntmps8
    go_wp2_with fail
    refine (drawSignNumber_any _ _ _ _ _ w0).mono ?_
    rintro e' w1 ⟨a, b, e, q, rfl, T1⟩
    clear w0 hmax hcap hn
    have ks : (w1.alloc (.cells #[.int .i64 a, .int .i64 b, .int .i64 e] 36)).heap[w1.heap.size]? = some (.cells #[.int .i64 a, .int .i64 b, .int .i64 e] 36 (0, 0)) := alloc_new' rfl
    have TV := T1.alloc T1.size (.cells #[.int .i64 a, .int .i64 b, .int .i64 e] 36)
    have HK := hid (And.intro ks TV)
    clear ks TV
    go_wp2_with fail
    obtain ⟨ks, TV⟩ := HK.out
    clear HK
    revert ks TV
    generalize (w1.alloc (.cells #[.int .i64 a, .int .i64 b, .int .i64 e] 36)) = V
    intro ks TV
    have B0 := hid (cell_of_row V w1.heap.size 0 _ _ _ ks)
    have B1 := hid (cell_of_row V w1.heap.size 1 _ _ _ ks)
    have B2 := hid (cell_of_row V w1.heap.size 2 _ _ _ ks)
    have HTV := hid TV
    clear ks TV T1
    have fin : ∀ W, Ext.of V W → Below w.heap.size w W := fun W X => HTV.out.trans (X.below.mono HTV.out.size)
    have C1 := fun W => signI_any a b e q W
    have CS := fun W => signS_any a b e q W
    by_cases hs : signF a b e q < 0
    · rw [sign_neg hs] at C1 CS
      clear hs
      refine (C1 _).mono ?_
      rintro e' w2 ⟨rfl, X2⟩
      have bx0 := X2.cell B0.out
      have bx1 := X2.cell B1.out
      have bx2 := X2.cell B2.out
      go_wp2_with fail
      clear bx0 bx1 bx2
      refine (CS _).mono ?_
      rintro e' w3 ⟨rfl, x3⟩
      have X3 := X2.trans x3
      clear x3 X2 C1 CS
      go_wp2_with (go_at_call 17; refine (alive_any _).mono ?_; rintro e w' ⟨rfl, rfl⟩)
      go_ret
      exact ⟨rfl, fin _ X3⟩
    · have hv : keyV a b e = true := by
        cases hv : keyV a b e with
        | true => rfl
        | false => rw [signF_no hv] at hs; omega
      obtain ⟨hl, ho, hsg⟩ := sign_laws hv (show 0 ≤ signF a b e q by omega)
      have CM := fun W => modI_any a b e W
      have CO1 := fun W => openI_any (a * b) e (signF a b e q) W
      have CO2 := fun W => openI_any (a * b) e q W
      have CG := fun W => signI_any a b e (openF (a * b) e q) W
      rw [modF_yes hv] at CM
      rw [ho] at CO1
      rw [hsg] at CG
      have h0 : 0 ≤ signF a b e q := by omega
      clear hs ho hsg hv
      generalize signF a b e q = S at *
      generalize openF (a * b) e q = N at *
      generalize a * b = M at *
      have t0 : decide (S < 0) = false := by simp; omega
      have t1 : decide (S < M) = true := by simp; omega
      clear hl h0
      refine (C1 _).mono ?_
      rintro e' w2 ⟨rfl, X2⟩
      have bx0 := X2.cell B0.out
      have bx1 := X2.cell B1.out
      have bx2 := X2.cell B2.out
      go_wp2_with fail
      clear bx0 bx1 bx2
      refine (CS _).mono ?_
      rintro e' w3 ⟨rfl, x3⟩
      have X3 := X2.trans x3
      clear x3 X2 C1 CS
      have bx0 := X3.cell B0.out
      have bx1 := X3.cell B1.out
      have bx2 := X3.cell B2.out
      go_wp2_with fail
      clear bx0 bx1 bx2
      refine (CM _).mono ?_
      rintro e' w4 ⟨rfl, x4⟩
      have X4 := X3.trans x4
      clear x4 X3 CM
      have bx0 := more_cell (X4.cell B0.out)
      have bx1 := more_cell (X4.cell B1.out)
      have bx2 := more_cell (X4.cell B2.out)
      go_wp2_with fail
      refine wp_region_more (by kernel_rfl) (by kernel_rfl) ?_
      repeat (go_big_quiet_step (first
        | with_reducible exact more_same (CO1 _)
        | with_reducible exact more_same (CO2 _)
        | with_reducible exact more_of (CG _)))
      refine wpQuiet_nil ?_
      rintro _ ⟨y, rfl⟩
      go_wp2_with fail
      go_ret
      exact ⟨rfl, fin _ (X4.trans ⟨y, rfl⟩)⟩
end Go.Proofs.Ythbjbodkbpbbaaa.fnSignNumber
