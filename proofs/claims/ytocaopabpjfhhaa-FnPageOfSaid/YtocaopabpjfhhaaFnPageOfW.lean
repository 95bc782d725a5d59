/- The walk of FnPageOf: it returns true and turns nothing that was there. -/
import Derived.Test.YtocaopabpjfhhaaDrawPage
namespace Go.Proofs.Ytocaopabpjfhhaa.fnPageOf
open Go.RowKit
set_option linter.unusedVariables false

theorem pageN_ge (n : Nat) (f m : Int) (h : pageOk n f m ∨ True) : -1 ≤ pageN n f m := by
  by_cases b : pageOk n f m
  · rw [pageN_yes b]
    obtain ⟨_, b1, b2, _⟩ := b
    split <;> omega
  · rw [pageN_no b]; omega
theorem page_both {xs : List Int} {f m : Int} (b : pageOk xs.length f m) (h2 : 2 * m ≤ 40) :
    (0 ≤ pageN xs.length f m → pageL xs f m ++ pageL xs (pageN xs.length f m) m = pageL xs f (2 * m)) ∧
    (pageN xs.length f m < 0 → pageL xs f m ++ [] = pageL xs f (2 * m)) ∧ ((pageL xs f m).length : Int) ≤ m := by
  have b' := b
  obtain ⟨b0, b1, b2, b3⟩ := b'
  have hb : pageOk xs.length f (2 * m) := ⟨b0, b1, ⟨by omega, by omega⟩, b3⟩
  rw [pageN_yes b, pageL_yes b, pageL_yes hb]
  obtain ⟨k, rfl⟩ := Int.eq_ofNat_of_zero_le b1.1
  obtain ⟨j, rfl⟩ := Int.eq_ofNat_of_zero_le (show 0 ≤ m by omega)
  have e2 : ((2 : Int) * (j : Int)).toNat = j + j := by omega
  simp only [Int.toNat_natCast, e2]
  refine ⟨fun h => ?_, fun h => ?_, ?_⟩
  · by_cases hc : (k : Int) + j < xs.length
    · rw [if_pos hc, pageL_yes ⟨b0, ⟨by omega, by omega⟩, b2, hc⟩]
      rw [show ((k : Int) + (j : Int)).toNat = k + j by omega, Int.toNat_natCast, List.take_add, List.drop_drop]
    · rw [if_neg hc] at h; omega
  · by_cases hc : (k : Int) + j < xs.length
    · rw [if_pos hc] at h; omega
    · rw [List.append_nil, List.take_of_length_le (by simp; omega), List.take_of_length_le (by simp; omega)]
  · simp; omega
theorem pageL_ok {xs : List Int} {f m : Int} (h : (pageL xs f m).length ≠ 0) : pageOk xs.length f m := by
  by_cases b : pageOk xs.length f m
  · exact b
  · rw [pageL_no b] at h; simp at h

theorem own_empty2 (w : World) (e : TypeId) (size : Nat) : ((w.alloc (.cells #[] e)).alloc (.cells #[] e)).ownsRow (w.heap.size + 1) e size (.slice (some ⟨w.heap.size + 1, 0, none⟩) 0 0) 0 [] := by
  simpa using own_empty (w.alloc (.cells #[] e)) e size
set_option maxHeartbeats 1000000 in
theorem walk (a0 : Option Addr) (len0 cap0 : Nat) (z0 : List Int) (w : World) (w0 : Row .u8 w a0 len0 cap0 z0) :
    Calls Try.prog 9 #[.slice a0 len0 cap0] w fun e w' => e = .returned (.bool true) ∧ Below w.heap.size w w' := by
  have hmax := w0.sl.max
  have hcap := w0.sl.cap
  unfold maxLen at hmax
  by_cases hn : 1048576 < len0
  · go_enter Try.func9, Try.ntmps9
    go_wp2
    go_ret
    exact ⟨rfl, Below.refl _ _⟩
  · go_enter Try.func9, Try.ntmps9
    go_wp2_with fail
    refine (drawPage_any _ _ _ _ _ w0).mono ?_
    rintro e w1 ⟨B1, k1, d1, f, m, xs, rfl, o1, hk1, f0, f1, m0, m1, T1⟩
    have o1 := own_lower o1 (Nat.le_refl _)
    have hxl : xs.length = k1 := by have := o1.1; simpa [ints] using this
    subst hxl
    clear w0 hmax hcap hn
    go_wp2_with fail
    refine (pageI_any _ _ _ xs _ _ _ (own_sl o1)).mono ?_
    rintro e w2 ⟨B2, k2, d2, rfl, o2, b2⟩
    have T2 := below_next T1 b2
    have o1 := own_below o1 b2
    clear b2 T1
    go_wp2_with fail
    refine (pageS_any _ _ _ xs _ _ _ (own_sl o1)).mono ?_
    rintro e w3 ⟨B3, k3, d3, rfl, o3, b3⟩
    have T3 := below_next T2 b3
    have o1 := own_below o1 b3
    have o2 := own_below o2 b3
    clear b3 T2
    go_wp2_with fail
    refine (sameInts_any _ _ _ _ _ _ _ _ _ (own_sl o2) (own_sl o3)).mono ?_
    rintro e w' ⟨rfl, q, rfl⟩
    have T3 := below_drewN T3 q
    have o1 := own_drewN o1 q
    have o2 := own_drewN o2 q
    clear o3
    have hk2 : k2 = (pageL xs f m).length := by have := o2.1; simp [ints] at this; omega
    subst hk2
    have hge := pageN_ge xs.length f m (.inr trivial)
    by_cases hk0 : (pageL xs f m).length = 0
    · have hb : (((pageL xs f m).length : Int) == 0) = true := by simp [hk0]
      clear o1 o2 hk0
      go_wp2_with (go_at_call 28; refine (alive_any _).mono ?_; rintro e w' ⟨rfl, rfl⟩)
      go_ret
      exact ⟨rfl, T3⟩
    · have hb : (((pageL xs f m).length : Int) == 0) = false := by simpa using hk0
      by_cases h2 : 2 * m ≤ 40
      · have bok := pageL_ok hk0
        obtain ⟨c1, c2, c3⟩ := page_both bok h2
        clear hk0 bok
        by_cases hN : 0 ≤ pageN xs.length f m
        · have C1 := hid (c1 hN)
          clear c1 c2
          go_wp2_with fail
          refine (pageI_any _ _ _ xs _ _ _ (own_sl o1)).mono ?_
          rintro e w4 ⟨B4, k4, d4, rfl, o4, b4⟩
          have T4 := below_next T3 b4
          have o1 := own_below o1 b4
          have o2 := own_below o2 b4
          clear b4 T3
          go_wp2_with fail
          refine (pageI_any _ _ _ xs _ _ _ (own_sl (o1.alloc _))).mono ?_
          rintro e w5 ⟨B5, k5, d5, rfl, o5, b5⟩
          have b45 : Below w4.heap.size w4 w5 := ((Below.refl _ _).alloc (Nat.le_refl _) _).trans (b5.mono (by simp))
          have T5 := below_next T4 b45
          have s2 := own_sl (own_below o2 b45)
          have o4 := own_below o4 b45
          have s5_ := own_sl o5
          have hk5 : k5 ≤ 41 := by
            have h1 := o5.1
            have h2 := pageL_length xs (pageN xs.length f m) m
            simp [ints] at h1; omega
          have hk2 : (pageL xs f m).length ≤ 41 := by have h2 := pageL_length xs f m; omega
          clear b5 b45 T4 o1 o2 o5
          go_wp2_with (first
          | (at_builtin; refine wpList_append_see _ rfl (.tmp 79) (.tmp 80) eltInt rfl w5.heap.size (.slice (some ⟨w5.heap.size, 0, none⟩) 0 0) 0 [] rfl (own_empty w5 3 1) B2 _ d2 (ints (pageL xs f m)) rfl (s2.see.alloc _) (s2.of_none (by decide)) s2.len (ints_oneCell _ _) (by unfold maxLen; omega) (by omega) (by simp) ?_
             intro v6 w6 own6 g6 hat6
             rw [Nat.zero_add, List.nil_append] at own6
             have b6 : Below w5.heap.size w5 w6 := ((Below.refl _ _).alloc (Nat.le_refl _) _).grown g6 (by simp) (by rintro k' hk'; simp [Value.ownBlock] at hk'; omega)
             have s5 := s5_.below b6)
          | (at_builtin; refine wpList_append_see _ rfl (.tmp 81) (.tmp 82) eltInt rfl w5.heap.size v6 (pageL xs f m).length (ints (pageL xs f m)) rfl own6 _ _ _ (ints (pageL xs (pageN xs.length f m) m)) rfl s5.see (s5.of_none (by decide)) s5.len (ints_oneCell _ _) (by unfold maxLen; omega) (by omega) b6.size ?_
             intro v7 w7 own7 g7 hat7
             have b7 : Below w5.heap.size w5 w7 := b6.grown g7 b6.size (fun k' hk' => (own6.lt k' hk').1)
             obtain ⟨B7, d7, rfl, _⟩ := own_form own7))
          have T7 := below_next T5 b7
          have o4 := own_below o4 b7
          have e7 : ints (pageL xs f m) ++ ints (pageL xs (pageN xs.length f m) m) = ints (pageL xs f m ++ pageL xs (pageN xs.length f m) m) := by simp [ints]
          rw [e7] at own7
          have s7 := own_sl own7
          have s4 := own_sl o4
          have D := hid (decide_eq_true C1.out)
          clear own6 g6 hat6 b6 s5 b7 own7 g7 hat7 o4 T5 s2 e7 s5_
          go_wp2_with fail
          refine (sameInts_any _ _ _ _ _ _ _ _ _ s7 s4).mono ?_
          rintro e w' ⟨rfl, q7, rfl⟩
          rw [D.out]
          have T7 := below_drewN T7 q7
          clear s7 s4
          go_wp2
          go_ret
          exact ⟨rfl, T7⟩
        · have hN' : pageN xs.length f m < 0 := by omega
          have C1 := hid (c2 hN')
          clear c1 c2 hN
          go_wp2_with fail
          refine (pageI_any _ _ _ xs _ _ _ (own_sl o1)).mono ?_
          rintro e w4 ⟨B4, k4, d4, rfl, o4, b4⟩
          have T4 := below_next T3 b4
          have o2 := own_below o2 b4
          have b45 : Below w4.heap.size w4 (w4.alloc (.cells #[] 3)) := (Below.refl _ _).alloc (Nat.le_refl _) _
          have T5 := below_next T4 b45
          have s2 := own_sl (own_below o2 b45)
          have o4 := own_below o4 b45
          have s5_ := own_sl (own_empty w4 3 1)
          have hk2 : (pageL xs f m).length ≤ 41 := by have h2 := pageL_length xs f m; omega
          clear b4 T3 b45 T4 o1 o2
          go_wp2_with (first
          | (at_builtin; refine wpList_append_see _ rfl (.tmp 79) (.tmp 80) eltInt rfl (w4.heap.size + 1) (.slice (some ⟨w4.heap.size + 1, 0, none⟩) 0 0) 0 [] rfl (own_empty2 w4 3 1) B2 _ d2 (ints (pageL xs f m)) rfl (s2.see.alloc _) (s2.of_none (by decide)) s2.len (ints_oneCell _ _) (by unfold maxLen; omega) (by omega) (by simp) ?_
             intro v6 w6 own6 g6 hat6
             rw [Nat.zero_add, List.nil_append] at own6
             have b6 : Below (w4.alloc (.cells #[] 3)).heap.size (w4.alloc (.cells #[] 3)) w6 := ((Below.refl _ _).alloc (Nat.le_refl _) _).grown g6 (by simp) (by rintro k' hk'; simp [Value.ownBlock] at hk'; simp; omega)
             have s5 := s5_.below b6)
          | (at_builtin; refine wpList_append_see _ rfl (.tmp 81) (.tmp 82) eltInt rfl (w4.heap.size + 1) v6 (pageL xs f m).length (ints (pageL xs f m)) rfl own6 _ _ _ [] rfl s5.see (s5.of_none (by decide)) s5.len (ints_oneCell .i64 []) (by unfold maxLen; omega) (by omega) (by have := b6.size; simpa using this) ?_
             intro v7 w7 own7 g7 hat7
             have b7 : Below (w4.alloc (.cells #[] 3)).heap.size (w4.alloc (.cells #[] 3)) w7 := b6.grown g7 b6.size (fun k' hk' => by have := (own6.lt k' hk').1; simpa using this)
             obtain ⟨B7, d7, rfl, _⟩ := own_form own7))
          have T7 := below_next T5 b7
          have o4 := own_below o4 b7
          have e7 : ints (pageL xs f m) ++ [] = ints (pageL xs f m ++ []) := by simp [ints]
          rw [e7] at own7
          have s7 := own_sl own7
          have s4 := own_sl o4
          have D := hid (decide_eq_true C1.out)
          clear own6 g6 hat6 b6 s5 b7 own7 g7 hat7 o4 T5 s2 e7 s5_
          go_wp2_with fail
          refine (sameInts_any _ _ _ _ _ _ _ _ _ s7 s4).mono ?_
          rintro e w' ⟨rfl, q7, rfl⟩
          rw [D.out]
          have T7 := below_drewN T7 q7
          clear s7 s4
          go_wp2
          go_ret
          exact ⟨rfl, T7⟩
      · have h2' : 40 < 2 * m := by omega
        clear o1 o2 hk0 h2
        go_wp2_with (go_at_call 28; refine (alive_any _).mono ?_; rintro e w' ⟨rfl, rfl⟩)
        go_ret
        exact ⟨rfl, T3⟩
end Go.Proofs.Ytocaopabpjfhhaa.fnPageOf
