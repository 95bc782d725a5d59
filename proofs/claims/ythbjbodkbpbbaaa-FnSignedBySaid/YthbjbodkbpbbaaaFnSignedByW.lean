/- The walk of FnSignedBy: it returns true and turns nothing that was there. -/
import Derived.Test.YthbjbodkbpbbaaaDrawSignedBy
namespace Go.Proofs.Ythbjbodkbpbbaaa.fnSignedBy
open Go.RowKit
set_option linter.unusedVariables false
set_option linter.unusedSimpArgs false
theorem by_eq (s : ByteArray) (m x q a b e : Int) : byV s m x q a b e = (rightV s m x q && (keyV a b e && ((m == a * b) && (x == e)))) := by unfold byV; rfl
set_option maxHeartbeats 1000000 in
theorem walk (a0 : Option Addr) (len0 cap0 : Nat) (z0 : List Int) (w : World) (w0 : Row .u8 w a0 len0 cap0 z0) :
    Calls Try.prog 13 #[.slice a0 len0 cap0] w fun e w' => e = .returned (.bool true) ∧ Below w.heap.size w w' := by
  have hmax := w0.sl.max
  have hcap := w0.sl.cap
  unfold maxLen at hmax
  by_cases hn : 1048576 < len0
  · go_enter Try.func13, Try.ntmps13
    go_wp2
    go_ret
    exact ⟨rfl, Below.refl _ _⟩
  · go_enter Try.func13, Try.ntmps13
    go_wp2_with fail
    refine (drawSignedBy_any _ _ _ _ _ w0).mono ?_
    rintro e' w1 ⟨s, m, x, q, a, b, e, rfl, hs, T1⟩
    clear w0 hmax hcap hn
    have hs' : s.size ≤ 9223372036854775807 := by omega
    have ks : ((w1.alloc (.cells #[.string s, .int .i64 m, .int .i64 x, .int .i64 q] 32)).alloc (.cells #[.int .i64 a, .int .i64 b, .int .i64 e] 36)).heap[w1.heap.size]? = some (.cells #[.string s, .int .i64 m, .int .i64 x, .int .i64 q] 32 (0, 0)) := alloc_old (alloc_new' rfl)
    have kk : ((w1.alloc (.cells #[.string s, .int .i64 m, .int .i64 x, .int .i64 q] 32)).alloc (.cells #[.int .i64 a, .int .i64 b, .int .i64 e] 36)).heap[w1.heap.size + 1]? = some (.cells #[.int .i64 a, .int .i64 b, .int .i64 e] 36 (0, 0)) := alloc_new' (by simp)
    have TV : Below w.heap.size w ((w1.alloc (.cells #[.string s, .int .i64 m, .int .i64 x, .int .i64 q] 32)).alloc (.cells #[.int .i64 a, .int .i64 b, .int .i64 e] 36)) := (T1.alloc T1.size _).alloc (T1.alloc T1.size _).size _
    have HK := hid (And.intro ks (And.intro kk TV))
    clear ks kk TV
    go_wp2_with fail
    obtain ⟨ks, kk, TV⟩ := HK.out
    clear HK
    revert ks kk TV
    generalize ((w1.alloc (.cells #[.string s, .int .i64 m, .int .i64 x, .int .i64 q] 32)).alloc (.cells #[.int .i64 a, .int .i64 b, .int .i64 e] 36)) = V
    intro ks kk TV
    have B0 := hid (cell_of_row V w1.heap.size 0 _ _ _ ks)
    have B1 := hid (cell_of_row V w1.heap.size 1 _ _ _ ks)
    have B2 := hid (cell_of_row V w1.heap.size 2 _ _ _ ks)
    have B3 := hid (cell_of_row V w1.heap.size 3 _ _ _ ks)
    have B4 := hid (cell_of_row V (w1.heap.size + 1) 0 _ _ _ kk)
    have B5 := hid (cell_of_row V (w1.heap.size + 1) 1 _ _ _ kk)
    have B6 := hid (cell_of_row V (w1.heap.size + 1) 2 _ _ _ kk)
    have HTV := hid TV
    clear ks kk TV T1 hs
    have fin : ∀ W, Ext.of V W → Below w.heap.size w W := fun W X => HTV.out.trans (X.below.mono HTV.out.size)
    have CI := fun W => byI_any s m x q a b e W hs'
    have CS := fun W => byS_any s m x q a b e W hs'
    have CR := fun W => rightI_any s m x q W hs'
    have CM := fun W => modI_any a b e W
    rw [by_eq] at CI CS
    cases hr : rightV s m x q with
    | false =>
      rw [hr] at CI CS CR
      simp only [Bool.false_and] at CI CS
      have hM : ∃ M, modF a b e = M := ⟨_, rfl⟩
      obtain ⟨M, hM⟩ := hM
      rw [hM] at CM
      clear hr hM
      refine (CI _).mono ?_
      rintro e' w2 ⟨rfl, X2⟩
      have bx0 := X2.cell B0.out
      have bx1 := X2.cell B1.out
      have bx2 := X2.cell B2.out
      have bx3 := X2.cell B3.out
      have bx4 := X2.cell B4.out
      have bx5 := X2.cell B5.out
      have bx6 := X2.cell B6.out
      go_wp2_with fail
      clear bx0 bx1 bx2 bx3 bx4 bx5 bx6
      refine (CS _).mono ?_
      rintro e' w3 ⟨rfl, x3⟩
      have X3 := X2.trans x3
      clear x3 X2 CI CS
      have bx0 := X3.cell B0.out
      have bx1 := X3.cell B1.out
      have bx2 := X3.cell B2.out
      have bx3 := X3.cell B3.out
      have bx4 := X3.cell B4.out
      have bx5 := X3.cell B5.out
      have bx6 := X3.cell B6.out
      go_wp2_with fail
      clear bx0 bx1 bx2 bx3 bx4 bx5 bx6
      refine (CM _).mono ?_
      rintro e' w4 ⟨rfl, x4⟩
      have X4 := X3.trans x4
      clear x4 X3 CM
      have bx0 := X4.cell B0.out
      have bx1 := X4.cell B1.out
      have bx2 := X4.cell B2.out
      have bx3 := X4.cell B3.out
      have bx4 := X4.cell B4.out
      have bx5 := X4.cell B5.out
      have bx6 := X4.cell B6.out
      go_wp2_with fail
      clear bx0 bx1 bx2 bx3 bx4 bx5 bx6
      refine (CR _).mono ?_
      rintro e' w5 ⟨rfl, x5⟩
      have X5 := X4.trans x5
      clear x5 X4 CR
      have bx0 := X5.cell B0.out
      have bx1 := X5.cell B1.out
      have bx2 := X5.cell B2.out
      have bx3 := X5.cell B3.out
      have bx4 := X5.cell B4.out
      have bx5 := X5.cell B5.out
      have bx6 := X5.cell B6.out
      go_wp2_with (go_at_call 17; refine (alive_any _).mono ?_; rintro e w' ⟨rfl, rfl⟩)
      go_ret
      exact ⟨rfl, fin _ X5⟩
    | true =>
      rw [hr] at CI CS CR
      clear hr
      cases hv : keyV a b e with
      | false =>
        rw [modF_no hv] at CM
        rw [hv] at CI CS
        simp only [Bool.false_and, Bool.and_false] at CI CS
        clear hv
        refine (CI _).mono ?_
        rintro e' w2 ⟨rfl, X2⟩
        have bx0 := X2.cell B0.out
        have bx1 := X2.cell B1.out
        have bx2 := X2.cell B2.out
        have bx3 := X2.cell B3.out
        have bx4 := X2.cell B4.out
        have bx5 := X2.cell B5.out
        have bx6 := X2.cell B6.out
        go_wp2_with fail
        clear bx0 bx1 bx2 bx3 bx4 bx5 bx6
        refine (CS _).mono ?_
        rintro e' w3 ⟨rfl, x3⟩
        have X3 := X2.trans x3
        clear x3 X2 CI CS
        have bx0 := X3.cell B0.out
        have bx1 := X3.cell B1.out
        have bx2 := X3.cell B2.out
        have bx3 := X3.cell B3.out
        have bx4 := X3.cell B4.out
        have bx5 := X3.cell B5.out
        have bx6 := X3.cell B6.out
        go_wp2_with fail
        clear bx0 bx1 bx2 bx3 bx4 bx5 bx6
        refine (CM _).mono ?_
        rintro e' w4 ⟨rfl, x4⟩
        have X4 := X3.trans x4
        clear x4 X3 CM
        have bx0 := X4.cell B0.out
        have bx1 := X4.cell B1.out
        have bx2 := X4.cell B2.out
        have bx3 := X4.cell B3.out
        have bx4 := X4.cell B4.out
        have bx5 := X4.cell B5.out
        have bx6 := X4.cell B6.out
        go_wp2_with fail
        clear bx0 bx1 bx2 bx3 bx4 bx5 bx6
        refine (CR _).mono ?_
        rintro e' w5 ⟨rfl, x5⟩
        have X5 := X4.trans x5
        clear x5 X4 CR
        have bx0 := X5.cell B0.out
        have bx1 := X5.cell B1.out
        have bx2 := X5.cell B2.out
        have bx3 := X5.cell B3.out
        have bx4 := X5.cell B4.out
        have bx5 := X5.cell B5.out
        have bx6 := X5.cell B6.out
        go_wp2_with (go_at_call 17; refine (alive_any _).mono ?_; rintro e w' ⟨rfl, rfl⟩)
        go_ret
        exact ⟨rfl, fin _ X5⟩
      | true =>
        have hb := mod_bound (keyV_iff.1 hv)
        rw [modF_yes hv] at CM
        rw [hv] at CI CS
        clear hv
        generalize a * b = M at *
        have t0 : decide (0 ≤ M) = true := by simp; omega
        clear hb
        cases t1 : (m == M) with
        | false =>
          rw [t1] at CI CS
          simp only [Bool.false_and, Bool.and_false] at CI CS
          refine (CI _).mono ?_
          rintro e' w2 ⟨rfl, X2⟩
          have bx0 := X2.cell B0.out
          have bx1 := X2.cell B1.out
          have bx2 := X2.cell B2.out
          have bx3 := X2.cell B3.out
          have bx4 := X2.cell B4.out
          have bx5 := X2.cell B5.out
          have bx6 := X2.cell B6.out
          go_wp2_with fail
          clear bx0 bx1 bx2 bx3 bx4 bx5 bx6
          refine (CS _).mono ?_
          rintro e' w3 ⟨rfl, x3⟩
          have X3 := X2.trans x3
          clear x3 X2 CI CS
          have bx0 := X3.cell B0.out
          have bx1 := X3.cell B1.out
          have bx2 := X3.cell B2.out
          have bx3 := X3.cell B3.out
          have bx4 := X3.cell B4.out
          have bx5 := X3.cell B5.out
          have bx6 := X3.cell B6.out
          go_wp2_with fail
          clear bx0 bx1 bx2 bx3 bx4 bx5 bx6
          refine (CM _).mono ?_
          rintro e' w4 ⟨rfl, x4⟩
          have X4 := X3.trans x4
          clear x4 X3 CM
          have bx0 := X4.cell B0.out
          have bx1 := X4.cell B1.out
          have bx2 := X4.cell B2.out
          have bx3 := X4.cell B3.out
          have bx4 := X4.cell B4.out
          have bx5 := X4.cell B5.out
          have bx6 := X4.cell B6.out
          go_wp2_with fail
          clear bx0 bx1 bx2 bx3 bx4 bx5 bx6
          refine (CR _).mono ?_
          rintro e' w5 ⟨rfl, x5⟩
          have X5 := X4.trans x5
          clear x5 X4 CR
          have bx0 := X5.cell B0.out
          have bx1 := X5.cell B1.out
          have bx2 := X5.cell B2.out
          have bx3 := X5.cell B3.out
          have bx4 := X5.cell B4.out
          have bx5 := X5.cell B5.out
          have bx6 := X5.cell B6.out
          go_wp2_with (go_at_call 17; refine (alive_any _).mono ?_; rintro e w' ⟨rfl, rfl⟩)
          go_ret
          exact ⟨rfl, fin _ X5⟩
        | true =>
          rw [t1] at CI CS
          cases t2 : (x == e) with
          | false =>
            rw [t2] at CI CS
            simp only [Bool.false_and, Bool.and_false] at CI CS
            refine (CI _).mono ?_
            rintro e' w2 ⟨rfl, X2⟩
            have bx0 := X2.cell B0.out
            have bx1 := X2.cell B1.out
            have bx2 := X2.cell B2.out
            have bx3 := X2.cell B3.out
            have bx4 := X2.cell B4.out
            have bx5 := X2.cell B5.out
            have bx6 := X2.cell B6.out
            go_wp2_with fail
            clear bx0 bx1 bx2 bx3 bx4 bx5 bx6
            refine (CS _).mono ?_
            rintro e' w3 ⟨rfl, x3⟩
            have X3 := X2.trans x3
            clear x3 X2 CI CS
            have bx0 := X3.cell B0.out
            have bx1 := X3.cell B1.out
            have bx2 := X3.cell B2.out
            have bx3 := X3.cell B3.out
            have bx4 := X3.cell B4.out
            have bx5 := X3.cell B5.out
            have bx6 := X3.cell B6.out
            go_wp2_with fail
            clear bx0 bx1 bx2 bx3 bx4 bx5 bx6
            refine (CM _).mono ?_
            rintro e' w4 ⟨rfl, x4⟩
            have X4 := X3.trans x4
            clear x4 X3 CM
            have bx0 := X4.cell B0.out
            have bx1 := X4.cell B1.out
            have bx2 := X4.cell B2.out
            have bx3 := X4.cell B3.out
            have bx4 := X4.cell B4.out
            have bx5 := X4.cell B5.out
            have bx6 := X4.cell B6.out
            go_wp2_with fail
            clear bx0 bx1 bx2 bx3 bx4 bx5 bx6
            refine (CR _).mono ?_
            rintro e' w5 ⟨rfl, x5⟩
            have X5 := X4.trans x5
            clear x5 X4 CR
            have bx0 := X5.cell B0.out
            have bx1 := X5.cell B1.out
            have bx2 := X5.cell B2.out
            have bx3 := X5.cell B3.out
            have bx4 := X5.cell B4.out
            have bx5 := X5.cell B5.out
            have bx6 := X5.cell B6.out
            go_wp2_with (go_at_call 17; refine (alive_any _).mono ?_; rintro e w' ⟨rfl, rfl⟩)
            go_ret
            exact ⟨rfl, fin _ X5⟩
          | true =>
            rw [t2] at CI CS
            simp only [Bool.true_and] at CI CS
            refine (CI _).mono ?_
            rintro e' w2 ⟨rfl, X2⟩
            have bx0 := X2.cell B0.out
            have bx1 := X2.cell B1.out
            have bx2 := X2.cell B2.out
            have bx3 := X2.cell B3.out
            have bx4 := X2.cell B4.out
            have bx5 := X2.cell B5.out
            have bx6 := X2.cell B6.out
            go_wp2_with fail
            clear bx0 bx1 bx2 bx3 bx4 bx5 bx6
            refine (CS _).mono ?_
            rintro e' w3 ⟨rfl, x3⟩
            have X3 := X2.trans x3
            clear x3 X2 CI CS
            have bx0 := X3.cell B0.out
            have bx1 := X3.cell B1.out
            have bx2 := X3.cell B2.out
            have bx3 := X3.cell B3.out
            have bx4 := X3.cell B4.out
            have bx5 := X3.cell B5.out
            have bx6 := X3.cell B6.out
            go_wp2_with fail
            clear bx0 bx1 bx2 bx3 bx4 bx5 bx6
            refine (CM _).mono ?_
            rintro e' w4 ⟨rfl, x4⟩
            have X4 := X3.trans x4
            clear x4 X3 CM
            have bx0 := X4.cell B0.out
            have bx1 := X4.cell B1.out
            have bx2 := X4.cell B2.out
            have bx3 := X4.cell B3.out
            have bx4 := X4.cell B4.out
            have bx5 := X4.cell B5.out
            have bx6 := X4.cell B6.out
            go_wp2_with fail
            clear bx0 bx1 bx2 bx3 bx4 bx5 bx6
            refine (CR _).mono ?_
            rintro e' w5 ⟨rfl, x5⟩
            have X5 := X4.trans x5
            clear x5 X4 CR
            have bx0 := X5.cell B0.out
            have bx1 := X5.cell B1.out
            have bx2 := X5.cell B2.out
            have bx3 := X5.cell B3.out
            have bx4 := X5.cell B4.out
            have bx5 := X5.cell B5.out
            have bx6 := X5.cell B6.out
            go_wp2_with (go_at_call 17; refine (alive_any _).mono ?_; rintro e w' ⟨rfl, rfl⟩)
            go_ret
            exact ⟨rfl, fin _ X5⟩
end Go.Proofs.Ythbjbodkbpbbaaa.fnSignedBy
