/- The contracts of PageOf, the program's and the reference's, and of a list's copy. -/
import Derived.Test.YtocaopabpjfhhaaInts
namespace Go.Proofs.Ytocaopabpjfhhaa
open Go.RowKit
set_option linter.unusedVariables false

theorem copyInt_any (A : Option Addr) (n c : Nat) (xs : List Int) (w : World) (h : Sl w A n c 1 (ints xs)) (hn : n ≤ 1048576) :
    Calls Try.prog 49 #[.slice A n c] w fun e w' => ∃ B d, e = .returned (.slice B n d) ∧ w'.ownsRow w.heap.size 3 1 (.slice B n d) n (ints xs) ∧ Below w.heap.size w w' := by
  go_enter Try.func49, Try.ntmps49
  go_wp2_with (at_builtin; refine wpList_append_see _ rfl _ _ eltInt rfl w.heap.size (.slice none 0 0) 0 [] rfl (World.ownsRow_nil _ _ _ _) A n c (ints xs) rfl h.see (h.of_none (by decide)) h.len (ints_oneCell _ _) (by unfold maxLen; omega) (by omega) (Nat.le_refl _) ?_; intro v1 w1 hown hg hat)
  have hb : Below w.heap.size w w1 := below_of_grown hg (Nat.le_refl _) (by simp [Value.ownBlock])
  rw [Nat.zero_add, List.nil_append] at hown
  obtain ⟨B, d, rfl, _⟩ := own_form hown
  have R := hid (And.intro hown hb)
  clear hown hb hg hat
  go_wp2
  go_ret
  exact ⟨B, d, rfl, R.out⟩

/-- The page, and the entry that the next one begins with. -/
def pageOk (n : Nat) (f m : Int) : Prop := n ≤ 40 ∧ (0 ≤ f ∧ f ≤ 40) ∧ (1 ≤ m ∧ m ≤ 40) ∧ f < n
instance (n : Nat) (f m : Int) : Decidable (pageOk n f m) := by unfold pageOk; infer_instance
@[irreducible] def pageL (xs : List Int) (f m : Int) : List Int := if pageOk xs.length f m then (xs.drop f.toNat).take m.toNat else []
@[irreducible] def pageN (n : Nat) (f m : Int) : Int := if pageOk n f m then (if f + m < n then f + m else -1) else -1

theorem ints_sub (xs : List Int) (k m : Nat) : ((ints xs).drop k).take (m * 1) = ints ((xs.drop k).take m) := by simp [ints, List.map_take, List.map_drop]
theorem pageL_no {xs : List Int} {f m : Int} (h : ¬ pageOk xs.length f m) : pageL xs f m = [] := by unfold pageL; rw [if_neg h]
theorem pageN_no {n : Nat} {f m : Int} (h : ¬ pageOk n f m) : pageN n f m = -1 := by unfold pageN; rw [if_neg h]
theorem pageL_yes {xs : List Int} {f m : Int} (h : pageOk xs.length f m) : pageL xs f m = (xs.drop f.toNat).take m.toNat := by unfold pageL; rw [if_pos h]
theorem pageN_yes {n : Nat} {f m : Int} (h : pageOk n f m) : pageN n f m = if f + m < n then f + m else -1 := by unfold pageN; rw [if_pos h]
theorem pageL_length (xs : List Int) (f m : Int) : (pageL xs f m).length ≤ xs.length := by
  unfold pageL; split <;> simp; omega
theorem ret_pair {v v' : Value} {a b : Int} (hv : v = v') (h : a = b) : Ending.returned (.tuple #[v, .int .i64 a]) = .returned (.tuple #[v', .int .i64 b]) := by rw [h, hv]

theorem pageI_any (A : Option Addr) (n c : Nat) (xs : List Int) (f m : Int) (w : World) (h : Sl w A n c 1 (ints xs)) :
    Calls Try.prog 23 #[.slice A n c, .int .i64 f, .int .i64 m] w fun e w' => ∃ B k d, e = .returned (.tuple #[.slice B k d, .int .i64 (pageN n f m)]) ∧ w'.ownsRow w.heap.size 3 1 (.slice B k d) k (ints (pageL xs f m)) ∧ Below w.heap.size w w' := by
  have hlx : xs.length = n := by have := h.len; simpa using this
  have hcap := h.cap
  have hmax := h.max
  unfold maxLen at hmax
  by_cases b : pageOk n f m
  · have hL := hid (pageL_yes (by rw [hlx]; exact b))
    have hN := hid (pageN_yes b)
    obtain ⟨b0, b1, b2, b3⟩ := b
    have hb1 := inB_yes b1
    have hb2 := inB_yes b2
    obtain ⟨k, rfl⟩ := Int.eq_ofNat_of_zero_le b1.1
    obtain ⟨j, rfl⟩ := Int.eq_ofNat_of_zero_le (show 0 ≤ m by omega)
    by_cases b4 : (k : Int) + j < n
    · have hs := hid (h.sub (k := k) (m := k + j) (K := k) (by omega) (by omega) (by omega))
      rw [ints_sub, Nat.add_sub_cancel_left] at hs
      go_enter Try.func23, Try.ntmps23
      go_wp2_with (go_at_call 46; refine (within_any _ _ _ _).mono ?_; rintro e w' ⟨rfl, rfl⟩)
      refine (copyInt_any _ _ _ _ _ hs.out (by omega)).mono ?_
      rintro e w1 ⟨B, d, rfl, R⟩
      have R := hid R
      go_wp2
      go_ret2
      refine ⟨B, _, d, ret_pair rfl (by rw [hN.out, if_pos (by omega)]), ?_, R.out.2⟩
      rw [hL.out]
      exact R.out.1
    · have hs := hid (h.sub (k := k) (m := n) (K := k) (by omega) (by omega) (by omega))
      rw [ints_sub] at hs
      go_enter Try.func23, Try.ntmps23
      go_wp2_with (go_at_call 46; refine (within_any _ _ _ _).mono ?_; rintro e w' ⟨rfl, rfl⟩)
      refine (copyInt_any _ _ _ _ _ hs.out (by omega)).mono ?_
      rintro e w1 ⟨B, d, rfl, R⟩
      have R := hid R
      go_wp2
      go_ret2
      refine ⟨B, _, d, ret_pair rfl (by rw [hN.out, if_neg (by omega)]), ?_, R.out.2⟩
      rw [hL.out]
      have e1 : (List.drop k xs).take (n - k) = (xs.drop (k : Int).toNat).take (j : Int).toNat := by
        rw [List.take_of_length_le (by simp; omega), List.take_of_length_le (by simp; omega)]
        simp
      rw [← e1]
      exact R.out.1
  · rw [pageN_no b, pageL_no (by rw [hlx]; exact b)]
    unfold pageOk at b
    by_cases b0 : n ≤ 40
    · by_cases b1 : 0 ≤ f ∧ f ≤ 40
      · have hb1 := inB_yes b1
        by_cases b2 : 1 ≤ m ∧ m ≤ 40
        · have hb2 := inB_yes b2
          have b3 : (n : Int) ≤ f := by
            rcases Int.lt_or_le f n with h1 | h1
            · exact absurd ⟨b0, b1, b2, h1⟩ b
            · exact h1
          clear b
          go_enter Try.func23, Try.ntmps23
          go_wp2_with (go_at_call 46; refine (within_any _ _ _ _).mono ?_; rintro e w' ⟨rfl, rfl⟩)
          go_ret2
          exact ⟨none, 0, 0, rfl, World.ownsRow_nil _ _ _ _, Below.refl _ _⟩
        · have hb2 := inB_no b2
          clear b b2
          go_enter Try.func23, Try.ntmps23
          go_wp2_with (go_at_call 46; refine (within_any _ _ _ _).mono ?_; rintro e w' ⟨rfl, rfl⟩)
          go_ret2
          exact ⟨none, 0, 0, rfl, World.ownsRow_nil _ _ _ _, Below.refl _ _⟩
      · have hb1 := inB_no b1
        clear b b1
        go_enter Try.func23, Try.ntmps23
        go_wp2_with (go_at_call 46; refine (within_any _ _ _ _).mono ?_; rintro e w' ⟨rfl, rfl⟩)
        go_ret2
        exact ⟨none, 0, 0, rfl, World.ownsRow_nil _ _ _ _, Below.refl _ _⟩
    · have b0' : 40 < n := by omega
      clear b b0
      go_enter Try.func23, Try.ntmps23
      go_wp2_with (go_at_call 46; refine (within_any _ _ _ _).mono ?_; rintro e w' ⟨rfl, rfl⟩)
      go_ret2
      exact ⟨none, 0, 0, rfl, World.ownsRow_nil _ _ _ _, Below.refl _ _⟩

theorem pageS_any (A : Option Addr) (n c : Nat) (xs : List Int) (f m : Int) (w : World) (h : Sl w A n c 1 (ints xs)) :
    Calls Try.prog 21 #[.slice A n c, .int .i64 f, .int .i64 m] w fun e w' => ∃ B k d, e = .returned (.tuple #[.slice B k d, .int .i64 (pageN n f m)]) ∧ w'.ownsRow w.heap.size 3 1 (.slice B k d) k (ints (pageL xs f m)) ∧ Below w.heap.size w w' := by
  have hlx : xs.length = n := by have := h.len; simpa using this
  have hcap := h.cap
  have hmax := h.max
  unfold maxLen at hmax
  by_cases b : pageOk n f m
  · have hL := hid (pageL_yes (by rw [hlx]; exact b))
    have hN := hid (pageN_yes b)
    obtain ⟨b0, b1, b2, b3⟩ := b
    have hb1 := inB_yes b1
    have hb2 := inB_yes b2
    obtain ⟨k, rfl⟩ := Int.eq_ofNat_of_zero_le b1.1
    obtain ⟨j, rfl⟩ := Int.eq_ofNat_of_zero_le (show 0 ≤ m by omega)
    by_cases b4 : (k : Int) + j < n
    · have hs := (h.sub (k := k) (m := k + j) (K := k) (by omega) (by omega) (by omega))
      rw [ints_sub] at hs
      have hsee := hid (hs.see.alloc (.cells #[] 3))
      have hnone := hid (hs.of_none (by decide))
      have hlen := hid hs.len
      clear hs
      go_enter Try.func21, Try.ntmps21
      go_wp2_with (first | (go_at_call 45; refine (l1In_any _ _ _ _).mono ?_; rintro e w' ⟨rfl, rfl⟩) | (at_builtin; refine wpList_append_see _ rfl _ _ eltInt rfl w.heap.size (.slice (some ⟨w.heap.size, 0, none⟩) 0 0) 0 [] rfl (own_empty w 3 1) _ (k + j - k) (c - k) _ rfl hsee.out hnone.out hlen.out (ints_oneCell _ _) (by unfold maxLen; omega) (by omega) (by simp) ?_; intro v1 w1 hown hg hat))
      have hb : Below w.heap.size w w1 := ((Below.refl _ _).alloc (Nat.le_refl _) _).grown hg (by simp) (by rintro k' hk'; simp [Value.ownBlock] at hk'; omega)
      rw [Nat.zero_add, List.nil_append] at hown
      obtain ⟨B, d, rfl, _⟩ := own_form hown
      have R := hid (And.intro hown hb)
      clear hown hb hg hat
      have hbe : ((k : Int) + j == n) = false := by rw [beq_eq_false_iff_ne]; omega
      go_wp2
      go_ret2
      refine ⟨B, _, d, ret_pair rfl (by rw [hN.out, if_pos (by omega)]), ?_, R.out.2⟩
      rw [hL.out]
      have e1 : (List.drop k xs).take (k + j - k) = (xs.drop (k : Int).toNat).take (j : Int).toNat := by simp
      rw [← e1]
      exact R.out.1
    · have hs := (h.sub (k := k) (m := n) (K := k) (by omega) (by omega) (by omega))
      rw [ints_sub] at hs
      have hsee := hid (hs.see.alloc (.cells #[] 3))
      have hnone := hid (hs.of_none (by decide))
      have hlen := hid hs.len
      clear hs
      go_enter Try.func21, Try.ntmps21
      go_wp2_with (first | (go_at_call 45; refine (l1In_any _ _ _ _).mono ?_; rintro e w' ⟨rfl, rfl⟩) | (at_builtin; refine wpList_append_see _ rfl _ _ eltInt rfl w.heap.size (.slice (some ⟨w.heap.size, 0, none⟩) 0 0) 0 [] rfl (own_empty w 3 1) _ (n - k) (c - k) _ rfl hsee.out hnone.out hlen.out (ints_oneCell _ _) (by unfold maxLen; omega) (by omega) (by simp) ?_; intro v1 w1 hown hg hat))
      have hb : Below w.heap.size w w1 := ((Below.refl _ _).alloc (Nat.le_refl _) _).grown hg (by simp) (by rintro k' hk'; simp [Value.ownBlock] at hk'; omega)
      rw [Nat.zero_add, List.nil_append] at hown
      obtain ⟨B, d, rfl, _⟩ := own_form hown
      have R := hid (And.intro hown hb)
      clear hown hb hg hat
      have hbe : True := trivial
      go_wp2
      go_ret2
      refine ⟨B, _, d, ret_pair rfl (by rw [hN.out, if_neg (by omega)]), ?_, R.out.2⟩
      rw [hL.out]
      have e1 : (List.drop k xs).take (n - k) = (xs.drop (k : Int).toNat).take (j : Int).toNat := by
        rw [List.take_of_length_le (by simp; omega), List.take_of_length_le (by simp; omega)]
        simp
      rw [← e1]
      exact R.out.1
  · rw [pageN_no b, pageL_no (by rw [hlx]; exact b)]
    unfold pageOk at b
    by_cases b0 : n ≤ 40
    · by_cases b1 : 0 ≤ f ∧ f ≤ 40
      · have hb1 := inB_yes b1
        by_cases b2 : 1 ≤ m ∧ m ≤ 40
        · have hb2 := inB_yes b2
          have b3 : (n : Int) ≤ f := by
            rcases Int.lt_or_le f n with h1 | h1
            · exact absurd ⟨b0, b1, b2, h1⟩ b
            · exact h1
          clear b
          go_enter Try.func21, Try.ntmps21
          go_wp2_with (go_at_call 45; refine (l1In_any _ _ _ _).mono ?_; rintro e w' ⟨rfl, rfl⟩)
          go_ret2
          exact ⟨_, 0, 0, rfl, own_empty _ _ _, (Below.refl _ _).alloc (Nat.le_refl _) _⟩
        · have hb2 := inB_no b2
          clear b b2
          go_enter Try.func21, Try.ntmps21
          go_wp2_with (go_at_call 45; refine (l1In_any _ _ _ _).mono ?_; rintro e w' ⟨rfl, rfl⟩)
          go_ret2
          exact ⟨_, 0, 0, rfl, own_empty _ _ _, (Below.refl _ _).alloc (Nat.le_refl _) _⟩
      · have hb1 := inB_no b1
        clear b b1
        go_enter Try.func21, Try.ntmps21
        go_wp2_with (go_at_call 45; refine (l1In_any _ _ _ _).mono ?_; rintro e w' ⟨rfl, rfl⟩)
        go_ret2
        exact ⟨_, 0, 0, rfl, own_empty _ _ _, (Below.refl _ _).alloc (Nat.le_refl _) _⟩
    · have b0' : 40 < n := by omega
      clear b b0
      go_enter Try.func21, Try.ntmps21
      go_wp2_with (go_at_call 45; refine (l1In_any _ _ _ _).mono ?_; rintro e w' ⟨rfl, rfl⟩)
      go_ret2
      exact ⟨_, 0, 0, rfl, own_empty _ _ _, (Below.refl _ _).alloc (Nat.le_refl _) _⟩

end Go.Proofs.Ytocaopabpjfhhaa
