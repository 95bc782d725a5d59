/- The walk of FnFollow: it returns true and turns nothing that was there. -/
import Derived.Test.YtndiphnadeeofaaPlainFol2
namespace Go.Proofs.Ytndiphnadeeofaa.fnFollow
open Go.RowKit
set_option linter.unusedVariables false
set_option linter.unusedSimpArgs false
set_option maxHeartbeats 2000000 in
theorem walk (a0 : Option Addr) (len0 cap0 : Nat) (z0 : List Int) (w : World) (w0 : Row .u8 w a0 len0 cap0 z0) :
    Calls Try.prog 11 #[.slice a0 len0 cap0] w fun e w' => e = .returned (.bool true) ∧ Below w.heap.size w w' := by
  have hmax := w0.sl.max
  have hcap := w0.sl.cap
  unfold maxLen at hmax
  by_cases hn : 1048576 < len0
  · go_enter Try.func11, Try.ntmps11
    go_wp2
    go_ret
    exact ⟨rfl, Below.refl _ _⟩
  · go_enter Try.func11, Try.ntmps11
    go_wp2_with fail
    refine (drawFollow_any _ _ _ _ _ w0).mono ?_
    rintro e w1 ⟨B1, k1, d1, ys, a, b, rfl, o1, hok, hk1, ha, hb, T1⟩
    have HOK := hid hok
    have ha : a.size ≤ 9223372036854775807 := by omega
    have hb : b.size ≤ 9223372036854775807 := by omega
    clear w0 hmax hcap hn hok hk1
    have ks : (w1.alloc (.cells #[.string a, .string b] 33)).heap[w1.heap.size]? = some (.cells #[.string a, .string b] 33 (0, 0)) := alloc_new' rfl
    have oV := o1.alloc (.cells #[.string a, .string b] 33)
    have TV := T1.alloc T1.size (.cells #[.string a, .string b] 33)
    clear o1
    have HK := hid (And.intro ks (And.intro oV TV))
    clear ks oV TV
    go_wp2_with fail
    obtain ⟨ks, oV, TV⟩ := HK.out
    clear HK
    revert ks oV TV
    generalize (w1.alloc (.cells #[.string a, .string b] 33)) = V
    intro ks oV TV
    have HLT := hid (Array.getElem?_eq_some_iff.1 ks).1
    have HBX0 := hid (cell_of_row V w1.heap.size 0 _ _ _ ks)
    have HBX1 := hid (cell_of_row V w1.heap.size 1 _ _ _ ks)
    have HTV := hid TV
    have hsz := TV.size
    clear ks TV T1
    have fin : ∀ W, Below V.heap.size V W → Below w.heap.size w W := fun W T => HTV.out.trans (T.mono HTV.out.size)
    rcases follow_cases ys (a, b) with ⟨L, h1, hL⟩ | ⟨L, h1, h2, h3, h4⟩
    · have CI := fun A n c W (hW : Sl W A n c 2 (hds ys)) => followI_any A n c ys a b W hW HOK.out ha hb
      have CS := fun A n c W (hW : Sl W A n c 2 (hds ys)) => followS_any A n c ys a b W hW HOK.out ha hb
      rw [h1] at CI CS
      dsimp only at CI CS
      clear h1
      refine (CI _ _ _ _ (own_sl oV)).mono ?_
      rintro e w2 ⟨B2, k2, d2, rfl, o2, T2⟩
      have o2 := own_lower o2 hsz
      have o1 := own_below oV T2
      clear CI oV
      have bx0 := (T2.cell (p := ⟨w1.heap.size, 0, none⟩) HLT.out).trans HBX0.out
      have bx1 := (T2.cell (p := ⟨w1.heap.size, 1, none⟩) HLT.out).trans HBX1.out
      go_wp2_with fail
      clear bx0 bx1
      refine (CS _ _ _ _ (own_sl o1)).mono ?_
      rintro e w3 ⟨B3, k3, d3, rfl, o3, b3⟩
      have o2 := own_below o2 b3
      have o1 := own_below o1 b3
      have T3 := below_next T2 b3
      clear CS b3 T2
      go_wp2_with fail
      refine (sameHandles_any _ _ _ _ _ _ _ _ _ (own_sl o2) (own_sl o3)).mono ?_
      rintro e w4 ⟨rfl, x4⟩
      have o2 := own_ext o2 x4
      have o1 := own_ext o1 x4
      have T4 := below_next T3 x4.below
      clear x4 T3 o3
      rcases hL with hL | hL
      · subst hL
        go_wp2_with fail
        refine (sameHandles_any _ _ _ _ _ _ _ _ _ (own_sl o2) (own_sl o1)).mono ?_
        rintro e w5 ⟨rfl, x5⟩
        have T5 := below_next T4 x5.below
        clear x5 T4 o1 o2
        go_wp2_with (go_at_call 19; refine (alive_any _).mono ?_; rintro e w' ⟨rfl, rfl⟩)
        go_ret
        exact ⟨rfl, fin _ T5⟩
      · subst hL
        obtain rfl : k2 = 0 := by have := own_count o2 hdC_len (by omega); simp at this; omega
        by_cases hy : [] = ys
        · subst hy
          go_wp2_with fail
          refine (sameHandles_any _ _ _ _ _ _ _ _ _ (own_sl o2) (own_sl o1)).mono ?_
          rintro e w5 ⟨rfl, x5⟩
          have T5 := below_next T4 x5.below
          clear x5 T4 o1 o2
          go_wp2_with (go_at_call 19; refine (alive_any _).mono ?_; rintro e w' ⟨rfl, rfl⟩)
          go_ret
          exact ⟨rfl, fin _ T5⟩
        · have HY := hid hy
          clear hy
          go_wp2_with fail
          refine (sameHandles_any _ _ _ _ _ _ _ _ _ (own_sl o2) (own_sl o1)).mono ?_
          rw [show decide ([] = ys) = false from decide_eq_false HY.out]
          rintro e w5 ⟨rfl, x5⟩
          have T5 := below_next T4 x5.below
          clear x5 T4 o1 o2
          go_wp2_with (go_at_call 19; refine (alive_any _).mono ?_; rintro e w' ⟨rfl, rfl⟩)
          go_ret
          exact ⟨rfl, fin _ T5⟩
    · have CI := fun A n c W (hW : Sl W A n c 2 (hds ys)) => followI_any A n c ys a b W hW HOK.out ha hb
      have CS := fun A n c W (hW : Sl W A n c 2 (hds ys)) => followS_any A n c ys a b W hW HOK.out ha hb
      rw [h1] at CI CS
      dsimp only at CI CS
      have HL := hid (followV_ok (xs := ys) HOK.out ha hb)
      rw [h1] at HL
      dsimp only at HL
      have C1 := fun A n c W (hW : Sl W A n c 2 (hds L)) => followI_any A n c L a b W hW HL.out ha hb
      have C2 := fun A n c W (hW : Sl W A n c 2 (hds L)) => unfollowI_any A n c L a b W hW HL.out
      have C3 := fun A n c W (hW : Sl W A n c 2 (hds L)) => folI_any A n c L W hW HL.out
      rw [h3] at C1
      rw [h4] at C2
      rw [h2] at C3
      dsimp only at C1 C2 C3
      clear h1 h2 h3 h4
      refine (CI _ _ _ _ (own_sl oV)).mono ?_
      rintro e w2 ⟨B2, k2, d2, rfl, o2, T2⟩
      have o2 := own_lower o2 hsz
      have o1 := own_below oV T2
      clear CI oV
      have bx0 := (T2.cell (p := ⟨w1.heap.size, 0, none⟩) HLT.out).trans HBX0.out
      have bx1 := (T2.cell (p := ⟨w1.heap.size, 1, none⟩) HLT.out).trans HBX1.out
      go_wp2_with fail
      clear bx0 bx1
      refine (CS _ _ _ _ (own_sl o1)).mono ?_
      rintro e w3 ⟨B3, k3, d3, rfl, o3, b3⟩
      have o2 := own_below o2 b3
      have o1 := own_below o1 b3
      have T3 := below_next T2 b3
      clear CS b3 T2
      go_wp2_with fail
      refine (sameHandles_any _ _ _ _ _ _ _ _ _ (own_sl o2) (own_sl o3)).mono ?_
      rintro e w4 ⟨rfl, x4⟩
      have o2 := own_ext o2 x4
      have o1 := own_ext o1 x4
      have T4 := below_next T3 x4.below
      clear x4 T3 o3
      have bx0 := (T4.cell (p := ⟨w1.heap.size, 0, none⟩) HLT.out).trans HBX0.out
      have bx1 := (T4.cell (p := ⟨w1.heap.size, 1, none⟩) HLT.out).trans HBX1.out
      go_wp2_with fail
      clear bx0 bx1
      refine (C1 _ _ _ _ (own_sl o2)).mono ?_
      rintro e w5 ⟨B5, k5, d5, rfl, o5, b5⟩
      have o2 := own_below o2 b5
      have o1 := own_below o1 b5
      have T5 := below_next T4 b5
      clear C1 b5 T4 o5
      have bx0 := (T5.cell (p := ⟨w1.heap.size, 0, none⟩) HLT.out).trans HBX0.out
      have bx1 := (T5.cell (p := ⟨w1.heap.size, 1, none⟩) HLT.out).trans HBX1.out
      go_wp2_with fail
      clear bx0 bx1
      refine (C2 _ _ _ _ (own_sl o2)).mono ?_
      rintro e w6 ⟨B6, k6, d6, rfl, o6, b6⟩
      have o2 := own_below o2 b6
      have o1 := own_below o1 b6
      have T6 := below_next T5 b6
      clear C2 b6 T5
      go_wp2_with fail
      refine (C3 _ _ _ _ (own_sl o2)).mono ?_
      rintro e w7 ⟨rfl, x7⟩
      have o6 := own_ext o6 x7
      have o1 := own_ext o1 x7
      have T7 := below_next T6 x7.below
      clear C3 x7 T6 o2
      go_wp2_with fail
      refine (sameHandles_any _ _ _ _ _ _ _ _ _ (own_sl o6) (own_sl o1)).mono ?_
      rintro e w8 ⟨rfl, x8⟩
      have T8 := below_next T7 x8.below
      clear x8 T7 o1 o6
      go_wp2_with fail
      go_ret
      exact ⟨rfl, fin _ T8⟩
end Go.Proofs.Ytndiphnadeeofaa.fnFollow
