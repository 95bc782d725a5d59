/- The walk of FnAddTurn: it returns true and turns nothing that was there. -/
import Derived.Test.YtcpepjnmjiffcaaDrawTurn2
import Derived.Test.YtcpepjnmjiffcaaKeyEq
namespace Go.Proofs.Ytcpepjnmjiffcaa.fnAddTurn
open Go.RowKit
set_option linter.unusedVariables false
set_option linter.unusedSimpArgs false
set_option maxHeartbeats 2000000 in
theorem walk (a0 : Option Addr) (len0 cap0 : Nat) (z0 : List Int) (w : World) (w0 : Row .u8 w a0 len0 cap0 z0) :
    Calls Try.prog 8 #[.slice a0 len0 cap0] w fun e w' => e = .returned (.bool true) ∧ Below w.heap.size w w' := by
  have hmax := w0.sl.max
  have hcap := w0.sl.cap
  unfold maxLen at hmax
  by_cases hn : 1048576 < len0
  · go_enter Try.func8, Try.ntmps8
    go_wp2
    go_ret
    exact ⟨rfl, Below.refl _ _⟩
  · go_enter Try.func8, Try.ntmps8
    go_wp2_with fail
    refine (drawAddTurn_any _ _ _ _ _ w0).mono ?_
    rintro e w1 ⟨B1, k1, d1, ys, x, a, b, f, rfl, o1, hk1, T1⟩
    clear w0 hmax hcap hn hk1
    have ks : (w1.alloc (.cells #[.int .i64 x, .int .i64 a, .int .i64 b, .int .i64 f] 39)).heap[w1.heap.size]? = some (.cells #[.int .i64 x, .int .i64 a, .int .i64 b, .int .i64 f] 39 (0, 0)) := alloc_new' rfl
    have oV := o1.alloc (.cells #[.int .i64 x, .int .i64 a, .int .i64 b, .int .i64 f] 39)
    have TV := T1.alloc T1.size (.cells #[.int .i64 x, .int .i64 a, .int .i64 b, .int .i64 f] 39)
    clear o1
    have HK := hid (And.intro ks (And.intro oV TV))
    clear ks oV TV
    go_wp2_with fail
    obtain ⟨ks, oV, TV⟩ := HK.out
    clear HK
    revert ks oV TV
    generalize (w1.alloc (.cells #[.int .i64 x, .int .i64 a, .int .i64 b, .int .i64 f] 39)) = V
    intro ks oV TV
    have HLT := hid (Array.getElem?_eq_some_iff.1 ks).1
    have HBX0 := hid (cell_of_row V w1.heap.size 0 _ _ _ ks)
    have HBX1 := hid (cell_of_row V w1.heap.size 1 _ _ _ ks)
    have HBX2 := hid (cell_of_row V w1.heap.size 2 _ _ _ ks)
    have HBX3 := hid (cell_of_row V w1.heap.size 3 _ _ _ ks)
    have HTV := hid TV
    have hsz := TV.size
    clear ks TV T1
    have fin : ∀ W, Below V.heap.size V W → Below w.heap.size w W := fun W T => HTV.out.trans (T.mono HTV.out.size)
    rcases add_cases ys x a b f with ⟨L, h1, hL⟩ | ⟨L, h1, h2, h3, h4, hx0, hx1⟩
    · have CI := fun A n c W (hW : Sl W A n c 4 (tns ys)) => addTurnI_any A n c ys x a b f W hW
      have CS := fun A n c W (hW : Sl W A n c 4 (tns ys)) => addTurnS_any A n c ys x a b f W hW
      rw [h1] at CI CS
      dsimp only at CI CS
      clear h1
      refine (CI _ _ _ _ (own_sl oV)).mono ?_
      rintro e w2 ⟨B2, k2, d2, rfl, o2, T2⟩
      have o2 := own_lower o2 hsz
      have o1 := own_below oV T2
      clear CI oV
      have bx0 := (T2.cell (p := ⟨w1.heap.size, 0, none⟩) HLT.out).trans HBX0.out
      have bx1 := (T2.cell (p := ⟨w1.heap.size, 1, none⟩) HLT.out).trans HBX1.out
      have bx2 := (T2.cell (p := ⟨w1.heap.size, 2, none⟩) HLT.out).trans HBX2.out
      have bx3 := (T2.cell (p := ⟨w1.heap.size, 3, none⟩) HLT.out).trans HBX3.out
      go_wp2_with fail
      clear bx0 bx1 bx2 bx3
      refine (CS _ _ _ _ (own_sl o1)).mono ?_
      rintro e w3 ⟨B3, k3, d3, rfl, o3, b3⟩
      have o2 := own_below o2 b3
      have o1 := own_below o1 b3
      have T3 := below_next T2 b3
      clear CS b3 T2
      go_wp2_with fail
      refine (sameTurns_any _ _ _ _ _ _ _ _ _ (own_sl o2) (own_sl o3)).mono ?_
      rintro e w4 ⟨rfl, x4⟩
      have o2 := own_ext o2 x4
      have o1 := own_ext o1 x4
      have T4 := below_next T3 x4.below
      clear x4 T3 o3
      rcases hL with hL | hL
      · subst hL
        go_wp2_with fail
        refine (sameTurns_any _ _ _ _ _ _ _ _ _ (own_sl o2) (own_sl o1)).mono ?_
        rintro e w5 ⟨rfl, x5⟩
        have T5 := below_next T4 x5.below
        clear x5 T4 o1 o2
        go_wp2_with (go_at_call 20; refine (alive_any _).mono ?_; rintro e w' ⟨rfl, rfl⟩)
        go_ret
        exact ⟨rfl, fin _ T5⟩
      · subst hL
        obtain rfl : k2 = 0 := by have := own_count o2 tnC_len (by omega); simp at this; omega
        by_cases hy : [] = ys
        · subst hy
          go_wp2_with fail
          refine (sameTurns_any _ _ _ _ _ _ _ _ _ (own_sl o2) (own_sl o1)).mono ?_
          rintro e w5 ⟨rfl, x5⟩
          have T5 := below_next T4 x5.below
          clear x5 T4 o1 o2
          go_wp2_with (go_at_call 20; refine (alive_any _).mono ?_; rintro e w' ⟨rfl, rfl⟩)
          go_ret
          exact ⟨rfl, fin _ T5⟩
        · have HY := hid hy
          clear hy
          go_wp2_with fail
          refine (sameTurns_any _ _ _ _ _ _ _ _ _ (own_sl o2) (own_sl o1)).mono ?_
          rw [show decide ([] = ys) = false from decide_eq_false HY.out]
          rintro e w5 ⟨rfl, x5⟩
          have T5 := below_next T4 x5.below
          clear x5 T4 o1 o2
          go_wp2_with (go_at_call 20; refine (alive_any _).mono ?_; rintro e w' ⟨rfl, rfl⟩)
          go_ret
          exact ⟨rfl, fin _ T5⟩
    · have CI := fun A n c W (hW : Sl W A n c 4 (tns ys)) => addTurnI_any A n c ys x a b f W hW
      have CS := fun A n c W (hW : Sl W A n c 4 (tns ys)) => addTurnS_any A n c ys x a b f W hW
      rw [h1] at CI CS
      dsimp only at CI CS
      obtain ⟨a2, b2, f2, q2, hK⟩ : ∃ a2 b2 f2 q2, keyOnV ys (x - 1) = ((a2, b2, f2), q2) := ⟨_, _, _, _, rfl⟩
      have C1 := fun A n c W (hW : Sl W A n c 4 (tns L)) => keyOnI_any A n c L x W hW
      have C2 := fun A n c W (hW : Sl W A n c 4 (tns L)) => keyOnI_any A n c L (x - 1) W hW
      have C4 := fun A n c W (hW : Sl W A n c 4 (tns ys)) => keyOnI_any A n c ys (x - 1) W hW
      have C3 := fun A n c W (hW : Sl W A n c 4 (tns L)) => tnI_any A n c L W hW
      rw [h3] at C1
      rw [h4, hK] at C2
      rw [hK] at C4
      rw [h2] at C3
      dsimp only [KeyRes] at C1 C2 C4
      clear h1 h2 h3 h4 hK
      have hw := IntWalk.i64_in (x - 1) ⟨by omega, by omega⟩
      have hE1 := eqlKey a b f
      have hE2 := eqlKey a2 b2 f2
      refine (CI _ _ _ _ (own_sl oV)).mono ?_
      rintro e w2 ⟨B2, k2, d2, rfl, o2, T2⟩
      have o2 := own_lower o2 hsz
      have o1 := own_below oV T2
      clear CI oV
      have bx0 := (T2.cell (p := ⟨w1.heap.size, 0, none⟩) HLT.out).trans HBX0.out
      have bx1 := (T2.cell (p := ⟨w1.heap.size, 1, none⟩) HLT.out).trans HBX1.out
      have bx2 := (T2.cell (p := ⟨w1.heap.size, 2, none⟩) HLT.out).trans HBX2.out
      have bx3 := (T2.cell (p := ⟨w1.heap.size, 3, none⟩) HLT.out).trans HBX3.out
      go_wp2_with fail
      clear bx0 bx1 bx2 bx3
      refine (CS _ _ _ _ (own_sl o1)).mono ?_
      rintro e w3 ⟨B3, k3, d3, rfl, o3, b3⟩
      have o2 := own_below o2 b3
      have o1 := own_below o1 b3
      have T3 := below_next T2 b3
      clear CS b3 T2
      go_wp2_with fail
      refine (sameTurns_any _ _ _ _ _ _ _ _ _ (own_sl o2) (own_sl o3)).mono ?_
      rintro e w4 ⟨rfl, x4⟩
      have o2 := own_ext o2 x4
      have o1 := own_ext o1 x4
      have T4 := below_next T3 x4.below
      clear x4 T3 o3
      have bx0 := (T4.cell (p := ⟨w1.heap.size, 0, none⟩) HLT.out).trans HBX0.out
      have bx1 := (T4.cell (p := ⟨w1.heap.size, 1, none⟩) HLT.out).trans HBX1.out
      have bx2 := (T4.cell (p := ⟨w1.heap.size, 2, none⟩) HLT.out).trans HBX2.out
      have bx3 := (T4.cell (p := ⟨w1.heap.size, 3, none⟩) HLT.out).trans HBX3.out
      go_wp2_with fail
      clear bx0 bx1 bx2 bx3
      refine (C1 _ _ _ _ (own_sl o2)).mono ?_
      rintro e w5 ⟨rfl, x5⟩
      have g5 : (w5.alloc (.cells #[.int .i64 a, .int .i64 b, .int .i64 f] 30)).heap[w5.heap.size]? = some (.cells #[.int .i64 a, .int .i64 b, .int .i64 f] 30 (0, 0)) := alloc_new' rfl
      have o2 := (own_ext o2 x5).alloc (.cells #[.int .i64 a, .int .i64 b, .int .i64 f] 30)
      have o1 := (own_ext o1 x5).alloc (.cells #[.int .i64 a, .int .i64 b, .int .i64 f] 30)
      have T5 := below_next T4 x5.below
      have T5 := T5.alloc T5.size (.cells #[.int .i64 a, .int .i64 b, .int .i64 f] 30)
      clear C1 x5 T4
      have HG5 := hid g5
      clear g5
      have bx0 := (T5.cell (p := ⟨w1.heap.size, 0, none⟩) HLT.out).trans HBX0.out
      have bx1 := (T5.cell (p := ⟨w1.heap.size, 1, none⟩) HLT.out).trans HBX1.out
      have bx2 := (T5.cell (p := ⟨w1.heap.size, 2, none⟩) HLT.out).trans HBX2.out
      have bx3 := (T5.cell (p := ⟨w1.heap.size, 3, none⟩) HLT.out).trans HBX3.out
      go_wp2_with fail
      clear bx0 bx1 bx2 bx3
      refine (C2 _ _ _ _ (own_sl o2)).mono ?_
      rintro e w6 ⟨rfl, x6⟩
      have g5 := (x6.block (Array.getElem?_eq_some_iff.1 HG5.out).1).trans HG5.out
      have g5 := alloc_old (o := .cells #[.int .i64 a2, .int .i64 b2, .int .i64 f2] 30) g5
      have g6 : (w6.alloc (.cells #[.int .i64 a2, .int .i64 b2, .int .i64 f2] 30)).heap[w6.heap.size]? = some (.cells #[.int .i64 a2, .int .i64 b2, .int .i64 f2] 30 (0, 0)) := alloc_new' rfl
      have o2 := (own_ext o2 x6).alloc (.cells #[.int .i64 a2, .int .i64 b2, .int .i64 f2] 30)
      have o1 := (own_ext o1 x6).alloc (.cells #[.int .i64 a2, .int .i64 b2, .int .i64 f2] 30)
      have T6 := below_next T5 x6.below
      have T6 := T6.alloc T6.size (.cells #[.int .i64 a2, .int .i64 b2, .int .i64 f2] 30)
      clear C2 x6 T5 HG5
      have HG5 := hid g5
      have HG6 := hid g6
      clear g5 g6
      have bx0 := (T6.cell (p := ⟨w1.heap.size, 0, none⟩) HLT.out).trans HBX0.out
      have bx1 := (T6.cell (p := ⟨w1.heap.size, 1, none⟩) HLT.out).trans HBX1.out
      have bx2 := (T6.cell (p := ⟨w1.heap.size, 2, none⟩) HLT.out).trans HBX2.out
      have bx3 := (T6.cell (p := ⟨w1.heap.size, 3, none⟩) HLT.out).trans HBX3.out
      go_wp2_with fail
      clear bx0 bx1 bx2 bx3
      refine (C4 _ _ _ _ (own_sl o1)).mono ?_
      rintro e w7 ⟨rfl, x7⟩
      have g5 := (x7.block (Array.getElem?_eq_some_iff.1 HG5.out).1).trans HG5.out
      have g6 := (x7.block (Array.getElem?_eq_some_iff.1 HG6.out).1).trans HG6.out
      have g5 := alloc_old (o := .cells #[.int .i64 a2, .int .i64 b2, .int .i64 f2] 30) g5
      have g6 := alloc_old (o := .cells #[.int .i64 a2, .int .i64 b2, .int .i64 f2] 30) g6
      have g7 : (w7.alloc (.cells #[.int .i64 a2, .int .i64 b2, .int .i64 f2] 30)).heap[w7.heap.size]? = some (.cells #[.int .i64 a2, .int .i64 b2, .int .i64 f2] 30 (0, 0)) := alloc_new' rfl
      have o2 := (own_ext o2 x7).alloc (.cells #[.int .i64 a2, .int .i64 b2, .int .i64 f2] 30)
      have T7 := below_next T6 x7.below
      have T7 := T7.alloc T7.size (.cells #[.int .i64 a2, .int .i64 b2, .int .i64 f2] 30)
      clear C4 x7 T6 HG5 HG6 o1
      have HG5 := hid g5
      have HG6 := hid g6
      have HG7 := hid g7
      clear g5 g6 g7
      go_wp2_with fail
      refine (C3 _ _ _ _ (own_sl o2)).mono ?_
      rintro e w8 ⟨rfl, x8⟩
      have g5 := (x8.block (Array.getElem?_eq_some_iff.1 HG5.out).1).trans HG5.out
      have g6 := (x8.block (Array.getElem?_eq_some_iff.1 HG6.out).1).trans HG6.out
      have g7 := (x8.block (Array.getElem?_eq_some_iff.1 HG7.out).1).trans HG7.out
      have T8 := below_next T7 x8.below
      clear C3 x8 T7 HG5 HG6 HG7 o2
      have bx0 := (T8.cell (p := ⟨w1.heap.size, 0, none⟩) HLT.out).trans HBX0.out
      have bx1 := (T8.cell (p := ⟨w1.heap.size, 1, none⟩) HLT.out).trans HBX1.out
      have bx2 := (T8.cell (p := ⟨w1.heap.size, 2, none⟩) HLT.out).trans HBX2.out
      have bx3 := (T8.cell (p := ⟨w1.heap.size, 3, none⟩) HLT.out).trans HBX3.out
      have k50 := cell_of_row w8 w5.heap.size 0 _ _ _ g5
      have k51 := cell_of_row w8 w5.heap.size 1 _ _ _ g5
      have k52 := cell_of_row w8 w5.heap.size 2 _ _ _ g5
      have k60 := cell_of_row w8 w6.heap.size 0 _ _ _ g6
      have k61 := cell_of_row w8 w6.heap.size 1 _ _ _ g6
      have k62 := cell_of_row w8 w6.heap.size 2 _ _ _ g6
      have k70 := cell_of_row w8 w7.heap.size 0 _ _ _ g7
      have k71 := cell_of_row w8 w7.heap.size 1 _ _ _ g7
      have k72 := cell_of_row w8 w7.heap.size 2 _ _ _ g7
      clear g5 g6 g7
      go_wp2_with fail
      go_ret
      exact ⟨rfl, fin _ T8⟩
end Go.Proofs.Ytcpepjnmjiffcaa.fnAddTurn
