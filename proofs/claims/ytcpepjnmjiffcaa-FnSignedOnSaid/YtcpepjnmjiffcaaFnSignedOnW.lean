/- The walk of FnSignedOn: it returns true and turns nothing that was there. -/
import Derived.Test.YtcpepjnmjiffcaaDrawSignedOn
import Derived.Test.YtcpepjnmjiffcaaPlainTurn
namespace Go.Proofs.Ytcpepjnmjiffcaa.fnSignedOn
open Go.RowKit
set_option linter.unusedVariables false
set_option linter.unusedSimpArgs false
theorem small_wf {n : Int} (h : -150 ≤ n ∧ n ≤ 149) : (Lit.int .i64 n).wf = true := by
  have h1 : IntKind.i64.min = -9223372036854775808 := by decide
  have h2 : IntKind.i64.max = 9223372036854775807 := by decide
  simp only [Lit.wf, Bool.and_eq_true, decide_eq_true_eq, h1, h2]
  omega
set_option maxHeartbeats 2000000 in
theorem walk (a0 : Option Addr) (len0 cap0 : Nat) (z0 : List Int) (w : World) (w0 : Row .u8 w a0 len0 cap0 z0) :
    Calls Try.prog 10 #[.slice a0 len0 cap0] w fun e w' => e = .returned (.bool true) ∧ Below w.heap.size w w' := by
  have hmax := w0.sl.max
  have hcap := w0.sl.cap
  unfold maxLen at hmax
  by_cases hn : 1048576 < len0
  · go_enter Try.func10, Try.ntmps10
    go_wp2
    go_ret
    exact ⟨rfl, Below.refl _ _⟩
  · go_enter Try.func10, Try.ntmps10
    go_wp2_with fail
    refine (drawSignedOn_any _ _ _ _ _ w0).mono ?_
    rintro e' w1 ⟨B1, k1, d1, ys, s, m, x, q, day, rfl, o1, hs, y0, y1, T1⟩
    clear w0 hmax hcap hn
    have hs' : s.size ≤ 9223372036854775807 := by omega
    have hw := small_wf ⟨y0, y1⟩
    have ks : (w1.alloc (.cells #[.string s, .int .i64 m, .int .i64 x, .int .i64 q] 57)).heap[w1.heap.size]? = some (.cells #[.string s, .int .i64 m, .int .i64 x, .int .i64 q] 57 (0, 0)) := alloc_new' rfl
    have oV := o1.alloc (.cells #[.string s, .int .i64 m, .int .i64 x, .int .i64 q] 57)
    have TV := T1.alloc T1.size (.cells #[.string s, .int .i64 m, .int .i64 x, .int .i64 q] 57)
    have CI := fun A n c W (hW : Sl W A n c 4 (tns ys)) => signedOnI_any A n c ys s m x q day W hW hs' hw
    have CS := fun A n c W (hW : Sl W A n c 4 (tns ys)) => signedOnS_any A n c ys s m x q day W hW hs' hw
    have CK := fun A n c W (hW : Sl W A n c 4 (tns ys)) => keyOnI_any A n c ys day W hW
    have CR := fun W => rightI_any s m x q W hs'
    obtain ⟨a, b, e, p, hK⟩ : ∃ a b e p, keyOnV ys day = ((a, b, e), p) := ⟨_, _, _, _, rfl⟩
    have CB := fun W => byI_any s m x q a b e W hs'
    rw [hK] at CK
    dsimp only [KeyRes] at CK
    have hnow : 0 ≤ day → p = true → byV s m x q a b e = true → onV ys s m x q day = true := fun h0 hp hb => son_now ⟨h0, by omega⟩ (by rw [hK, hp]) hb
    have hright := son_right (xs := ys) (s := s) (m := m) (x := x) (g := q) (day := day)
    generalize onV ys s m x q day = V at *
    generalize byV s m x q a b e = Y at *
    generalize rightV s m x q = Z at *
    have HF := hid (And.intro hnow hright)
    clear hnow hright hK hw o1 hs hs'
    have HK := hid (And.intro ks (And.intro oV TV))
    clear ks oV TV
    go_wp2_with fail
    obtain ⟨ks, oV, TV⟩ := HK.out
    clear HK
    revert ks oV TV
    generalize (w1.alloc (.cells #[.string s, .int .i64 m, .int .i64 x, .int .i64 q] 57)) = U
    intro ks oV TV
    have B0 := hid (cell_of_row U w1.heap.size 0 _ _ _ ks)
    have B1' := hid (cell_of_row U w1.heap.size 1 _ _ _ ks)
    have B2 := hid (cell_of_row U w1.heap.size 2 _ _ _ ks)
    have B3 := hid (cell_of_row U w1.heap.size 3 _ _ _ ks)
    have HTV := hid TV
    clear ks TV T1
    have fin : ∀ W, Ext.of U W → Below w.heap.size w W := fun W X => HTV.out.trans (X.below.mono HTV.out.size)
    refine (CI _ _ _ _ (own_sl oV)).mono ?_
    rintro e' w2 ⟨rfl, X2⟩
    have bx0 := X2.cell B0.out
    have bx1 := X2.cell B1'.out
    have bx2 := X2.cell B2.out
    have bx3 := X2.cell B3.out
    go_wp2_with fail
    clear bx0 bx1 bx2 bx3
    refine (CS _ _ _ _ ((own_sl oV).ext X2)).mono ?_
    rintro e' w3 ⟨rfl, x3⟩
    have X3 := X2.trans x3
    clear x3 X2 CI CS
    go_wp2_with fail
    refine (CK _ _ _ _ ((own_sl oV).ext X3)).mono ?_
    rintro e' w4 ⟨rfl, x4⟩
    have X4 := (X3.trans x4).alloc (.cells #[.int .i64 a, .int .i64 b, .int .i64 e] 30)
    have g4 : (w4.alloc (.cells #[.int .i64 a, .int .i64 b, .int .i64 e] 30)).heap[w4.heap.size]? = some (.cells #[.int .i64 a, .int .i64 b, .int .i64 e] 30 (0, 0)) := alloc_new' rfl
    have k0 := cell_of_row _ w4.heap.size 0 _ _ _ g4
    have k1' := cell_of_row _ w4.heap.size 1 _ _ _ g4
    have k2 := cell_of_row _ w4.heap.size 2 _ _ _ g4
    have bx0 := X4.cell B0.out
    have bx1 := X4.cell B1'.out
    have bx2 := X4.cell B2.out
    have bx3 := X4.cell B3.out
    clear x4 X3 CK oV g4
    cases p with
    | false =>
      cases V with
      | false =>
        go_wp2_with (go_at_call 20; refine (alive_any _).mono ?_; rintro e w' ⟨rfl, rfl⟩)
        go_ret
        exact ⟨rfl, fin _ X4⟩
      | true =>
        obtain rfl : Z = true := HF.out.2 rfl
        go_wp2_with fail
        refine (CR _).mono ?_
        rintro e' w6 ⟨rfl, x6⟩
        have X6 := X4.trans x6
        clear x6 X4
        go_wp2_with (go_at_call 20; refine (alive_any _).mono ?_; rintro e w' ⟨rfl, rfl⟩)
        go_ret
        exact ⟨rfl, fin _ X6⟩
    | true =>
      by_cases h0 : 0 ≤ day
      · have t0 : decide (0 ≤ day) = true := by simpa using h0
        cases Y with
        | false =>
          clear h0
          cases V with
          | false =>
            go_wp2_with fail
            refine (CB _).mono ?_
            rintro e' w5 ⟨rfl, x5⟩
            have X5 := X4.trans x5
            clear x5 X4 k0 k1' k2 bx0 bx1 bx2 bx3
            have bx0 := X5.cell B0.out
            have bx1 := X5.cell B1'.out
            have bx2 := X5.cell B2.out
            have bx3 := X5.cell B3.out
            go_wp2_with (go_at_call 20; refine (alive_any _).mono ?_; rintro e w' ⟨rfl, rfl⟩)
            go_ret
            exact ⟨rfl, fin _ X5⟩
          | true =>
            obtain rfl : Z = true := HF.out.2 rfl
            go_wp2_with fail
            refine (CB _).mono ?_
            rintro e' w5 ⟨rfl, x5⟩
            have X5 := X4.trans x5
            clear x5 X4 k0 k1' k2 bx0 bx1 bx2 bx3
            have bx0 := X5.cell B0.out
            have bx1 := X5.cell B1'.out
            have bx2 := X5.cell B2.out
            have bx3 := X5.cell B3.out
            go_wp2_with fail
            refine (CR _).mono ?_
            rintro e' w6 ⟨rfl, x6⟩
            have X6 := X5.trans x6
            clear x6 X5
            go_wp2_with (go_at_call 20; refine (alive_any _).mono ?_; rintro e w' ⟨rfl, rfl⟩)
            go_ret
            exact ⟨rfl, fin _ X6⟩
        | true =>
          obtain rfl : V = true := HF.out.1 h0 rfl rfl
          obtain rfl : Z = true := HF.out.2 rfl
          clear h0
          go_wp2_with fail
          refine (CB _).mono ?_
          rintro e' w5 ⟨rfl, x5⟩
          have X5 := X4.trans x5
          clear x5 X4 k0 k1' k2 bx0 bx1 bx2 bx3
          have bx0 := X5.cell B0.out
          have bx1 := X5.cell B1'.out
          have bx2 := X5.cell B2.out
          have bx3 := X5.cell B3.out
          go_wp2_with fail
          refine (CR _).mono ?_
          rintro e' w6 ⟨rfl, x6⟩
          have X6 := X5.trans x6
          clear x6 X5
          go_wp2_with (go_at_call 20; refine (alive_any _).mono ?_; rintro e w' ⟨rfl, rfl⟩)
          go_ret
          exact ⟨rfl, fin _ X6⟩
      · have t0 : decide (0 ≤ day) = false := by simpa using h0
        clear h0
        cases V with
        | false =>
          go_wp2_with (go_at_call 20; refine (alive_any _).mono ?_; rintro e w' ⟨rfl, rfl⟩)
          go_ret
          exact ⟨rfl, fin _ X4⟩
        | true =>
          obtain rfl : Z = true := HF.out.2 rfl
          go_wp2_with fail
          refine (CR _).mono ?_
          rintro e' w6 ⟨rfl, x6⟩
          have X6 := X4.trans x6
          clear x6 X4
          go_wp2_with (go_at_call 20; refine (alive_any _).mono ?_; rintro e w' ⟨rfl, rfl⟩)
          go_ret
          exact ⟨rfl, fin _ X6⟩
end Go.Proofs.Ytcpepjnmjiffcaa.fnSignedOn
