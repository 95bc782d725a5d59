/- The walk of FnSignatureRight: it returns true and turns nothing that was there. -/
import Derived.Test.YthbjbodkbpbbaaaDrawSb
namespace Go.Proofs.Ythbjbodkbpbbaaa.fnSignatureRight
open Go.RowKit
set_option linter.unusedVariables false
set_option linter.unusedSimpArgs false
theorem z_text : textV ⟨#[122]⟩ = true := textV_yes (by
  refine ⟨by decide, fun j hj => ?_⟩
  have hj : j < 1 := hj
  obtain rfl : j = 0 := by omega
  decide)
set_option maxHeartbeats 1000000 in
theorem walk (a0 : Option Addr) (len0 cap0 : Nat) (z0 : List Int) (w : World) (w0 : Row .u8 w a0 len0 cap0 z0) :
    Calls Try.prog 11 #[.slice a0 len0 cap0] w fun e w' => e = .returned (.bool true) ∧ Below w.heap.size w w' := by
  have hmax := w0.sl.max
  have hcap := w0.sl.cap
  unfold maxLen at hmax
  by_cases hn : 1048576 < len0
  · go_enter Try.func11, Try.ntmps11
    go_wp2
    go_ret
    exact ⟨rfl, Below.refl _ _⟩
  · go_enter Try.func11, Try.ntmps11
    go_wp2_with fail
    refine (drawSigRight_any _ _ _ _ _ w0).mono ?_
    rintro e' w1 ⟨s, m, x, q, rfl, hs, T1⟩
    clear w0 hmax hcap hn
    have hs' : s.size ≤ 9223372036854775807 := by omega
    have ks : (w1.alloc (.cells #[.string s, .int .i64 m, .int .i64 x, .int .i64 q] 32)).heap[w1.heap.size]? = some (.cells #[.string s, .int .i64 m, .int .i64 x, .int .i64 q] 32 (0, 0)) := alloc_new' rfl
    have TV := T1.alloc T1.size (.cells #[.string s, .int .i64 m, .int .i64 x, .int .i64 q] 32)
    have HK := hid (And.intro ks TV)
    clear ks TV
    go_wp2_with fail
    obtain ⟨ks, TV⟩ := HK.out
    clear HK
    revert ks TV
    generalize (w1.alloc (.cells #[.string s, .int .i64 m, .int .i64 x, .int .i64 q] 32)) = V
    intro ks TV
    have B0 := hid (cell_of_row V w1.heap.size 0 _ _ _ ks)
    have B1 := hid (cell_of_row V w1.heap.size 1 _ _ _ ks)
    have B2 := hid (cell_of_row V w1.heap.size 2 _ _ _ ks)
    have B3 := hid (cell_of_row V w1.heap.size 3 _ _ _ ks)
    have HTV := hid TV
    clear ks TV T1
    have fin : ∀ W, Ext.of V W → Below w.heap.size w W := fun W X => HTV.out.trans (X.below.mono HTV.out.size)
    have CI := fun W => rightI_any s m x q W hs'
    have CS := fun W => rightS_any s m x q W hs'
    have CZ := fun W => rightI_any ⟨#[122]⟩ m x q W (by decide)
    have CD := fun W => digI_any s W hs'
    have CDz := fun W => digI_any ⟨#[122]⟩ W (by decide)
    cases hr : rightV s m x q with
    | false =>
      rw [hr] at CI CS
      clear hr CZ CD CDz
      refine (CI _).mono ?_
      rintro e' w2 ⟨rfl, X2⟩
      have bx0 := X2.cell B0.out
      have bx1 := X2.cell B1.out
      have bx2 := X2.cell B2.out
      have bx3 := X2.cell B3.out
      go_wp2_with fail
      clear bx0 bx1 bx2 bx3
      refine (CS _).mono ?_
      rintro e' w3 ⟨rfl, x3⟩
      have X3 := X2.trans x3
      clear x3 X2 CI CS
      go_wp2_with (go_at_call 17; refine (alive_any _).mono ?_; rintro e w' ⟨rfl, rfl⟩)
      go_ret
      exact ⟨rfl, fin _ X3⟩
    | true =>
      obtain ⟨h1, h2, h3⟩ := right_other hr z_text
      have hm := inB_of h2
      have hd := digF_range (textV_iff.1 h3)
      have hdz := digF_range (textV_iff.1 z_text)
      rw [hr] at CI CS
      rw [h1] at CZ
      clear h1 h2 h3 hr
      have ht := Int.tmod_eq_emod_of_nonneg (b := m) hd.1
      have htz := Int.tmod_eq_emod_of_nonneg (b := m) hdz.1
      have l0 : 0 ≤ digF s % m := Int.emod_nonneg _ (by omega)
      have l1 : digF s % m < m := Int.emod_lt_of_pos _ (by omega)
      have l2 : 0 ≤ digF ⟨#[122]⟩ % m := Int.emod_nonneg _ (by omega)
      have l3 : digF ⟨#[122]⟩ % m < m := Int.emod_lt_of_pos _ (by omega)
      have hx := IntWalk.i64_in (digF s % m) ⟨by omega, by omega⟩
      have hxz := IntWalk.i64_in (digF ⟨#[122]⟩ % m) ⟨by omega, by omega⟩
      have hz : ¬ m = 0 := by omega
      have hz' : (m == 0) = false := by simpa using hz
      clear hm hd hdz l0 l1 l2 l3
      generalize digF s = D at *
      generalize digF ⟨#[122]⟩ = E at *
      refine (CI _).mono ?_
      rintro e' w2 ⟨rfl, X2⟩
      have bx0 := X2.cell B0.out
      have bx1 := X2.cell B1.out
      have bx2 := X2.cell B2.out
      have bx3 := X2.cell B3.out
      go_wp2_with fail
      clear bx0 bx1 bx2 bx3
      refine (CS _).mono ?_
      rintro e' w3 ⟨rfl, x3⟩
      have X3 := X2.trans x3
      clear x3 X2 CI CS
      have bx0 := X3.cell B0.out
      have bx1 := X3.cell B1.out
      have bx2 := X3.cell B2.out
      have bx3 := X3.cell B3.out
      have HX3 := hid X3
      clear X3
      go_wp2_with fail
      have g3 : (w3.alloc (.cells #[.string ⟨#[122]⟩, .int .i64 m, .int .i64 x, .int .i64 q] 32)).heap[w3.heap.size]? = some (.cells #[.string ⟨#[122]⟩, .int .i64 m, .int .i64 x, .int .i64 q] 32 (0, 0)) := alloc_new' rfl
      have X4 : Ext.of V (w3.alloc (.cells #[.string ⟨#[122]⟩, .int .i64 m, .int .i64 x, .int .i64 q] 32)) := HX3.out.alloc _
      have y3 : Ext.of w3 (w3.alloc (.cells #[.string ⟨#[122]⟩, .int .i64 m, .int .i64 x, .int .i64 q] 32)) := (Ext.of.refl _).alloc _
      have bx0 := y3.cell bx0
      have bx1 := y3.cell bx1
      have bx2 := y3.cell bx2
      have bx3 := y3.cell bx3
      revert g3 X4 bx0 bx1 bx2 bx3
      clear y3
      generalize w3.alloc (.cells #[.string ⟨#[122]⟩, .int .i64 m, .int .i64 x, .int .i64 q] 32) = W
      intro g3 X4 bx0 bx1 bx2 bx3
      have e0 := more_cell (cell_of_row W w3.heap.size 0 _ _ _ g3)
      have e1 := more_cell (cell_of_row W w3.heap.size 1 _ _ _ g3)
      have e2 := more_cell (cell_of_row W w3.heap.size 2 _ _ _ g3)
      have e3 := more_cell (cell_of_row W w3.heap.size 3 _ _ _ g3)
      have b0 := more_cell bx0
      have b1 := more_cell bx1
      clear bx0 bx1 bx2 bx3 g3
      refine wp_region_more (by kernel_rfl) (by kernel_rfl) ?_
      repeat (go_big_quiet_step (first
        | with_reducible exact more_of (CZ _)
        | with_reducible exact more_same (CDz _)
        | with_reducible exact more_same (CD _)))
      refine wpQuiet_nil ?_
      rintro _ ⟨y, rfl⟩
      have fin2 := fin _ (X4.trans ⟨y, rfl⟩)
      go_wp2_with fail
      go_ret
      exact ⟨by simp, fin2⟩
end Go.Proofs.Ythbjbodkbpbbaaa.fnSignatureRight
