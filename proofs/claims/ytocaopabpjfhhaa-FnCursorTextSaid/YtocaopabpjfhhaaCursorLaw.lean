/- The plain law of cursors: a cursor's text tells its entry, and its page size up to the check digit. -/
import Derived.Test.YtocaopabpjfhhaaCursor
namespace Go.Proofs.Ytocaopabpjfhhaa
open Go.RowKit

theorem dg_inj : ∀ a, a < 36 → ∀ b, b < 36 → dg a = dg b → a = b := by decide +kernel
theorem markL_inj : ∀ a, a < 41 → ∀ b, b < 41 → markL a = markL b → a = b := by decide +kernel
theorem markL_small {n : Nat} (h : n < 36) : markL n = [dg n] := by unfold markL; rw [markF, if_pos h]
theorem markB_list {n : Int} (h0 : 0 ≤ n) (h1 : n ≤ 1000000000) : (markB n).data.toList = markL n.toNat := by
  unfold markB; rw [if_pos ⟨h0, h1⟩]
theorem cursor_list {x m : Int} (h1 : 0 ≤ x ∧ x ≤ 40) (h2 : 1 ≤ m ∧ m ≤ 40) :
    (cursorB x m).data.toList = (112 :: markL x.toNat) ++ [45, dg ((x * 31 + m) % 36).toNat] := by
  rw [cursorB_yes h1 h2]
  simp only [ByteArray.data_append, Array.toList_append]
  rw [markB_list (by omega) (by omega), markB_list (by omega) (by omega), markL_small (n := ((x * 31 + m) % 36).toNat) (by omega)]
  simp
theorem cursor_inj {x m x' m' : Int} (h1 : 0 ≤ x ∧ x ≤ 40) (h2 : 1 ≤ m ∧ m ≤ 40) (h1' : 0 ≤ x' ∧ x' ≤ 40) (h2' : 1 ≤ m' ∧ m' ≤ 40) (e : cursorB x m = cursorB x' m') :
    x = x' ∧ (x * 31 + m) % 36 = (x' * 31 + m') % 36 := by
  have h := congrArg (fun s : ByteArray => s.data.toList) e
  simp only [cursor_list h1 h2, cursor_list h1' h2'] at h
  obtain ⟨ha, hb⟩ := List.append_inj' h rfl
  have ha' := markL_inj x.toNat (by omega) x'.toNat (by omega) (by simpa using ha)
  have hb' := dg_inj ((x * 31 + m) % 36).toNat (by omega) ((x' * 31 + m') % 36).toNat (by omega) (by simpa using hb)
  exact ⟨by omega, by omega⟩
theorem readF_range (s : ByteArray) (m : Int) : ∀ f k, readF s m f k = -1 ∨ ∃ j : Nat, k ≤ j ∧ j < k + f ∧ readF s m f k = (j : Int) ∧ cursorB j m = s
  | 0, _ => .inl rfl
  | f + 1, k => by
    by_cases h : cursorB k m = s
    · exact .inr ⟨k, by omega, by omega, by rw [readF, if_pos h], h⟩
    · rcases readF_range s m f (k + 1) with h' | ⟨j, h1, h2, h3, h4⟩
      · exact .inl (by rw [readF, if_neg h]; exact h')
      · exact .inr ⟨j, by omega, by omega, by rw [readF, if_neg h]; exact h3, h4⟩
theorem readC_range (s : ByteArray) (m : Int) : readC s m = -1 ∨ (0 ≤ readC s m ∧ readC s m ≤ 40 ∧ (1 ≤ m ∧ m ≤ 40) ∧ cursorB (readC s m) m = s) := by
  by_cases h : 1 ≤ m ∧ m ≤ 40
  · rw [readC_yes h]
    rcases readF_range s m 41 0 with h' | ⟨j, h1, h2, h3, h4⟩
    · exact .inl h'
    · exact .inr (by rw [h3]; exact ⟨by omega, by omega, h, h4⟩)
  · exact .inl (readC_no h)
theorem readF_hit {s : ByteArray} {m : Int} : ∀ (f k j : Nat), k ≤ j → j < k + f → cursorB j m = s → readF s m f k ≠ -1
  | 0, k, j, h1, h2, _ => by omega
  | f + 1, k, j, h1, h2, h3 => by
    by_cases h : cursorB k m = s
    · rw [readF, if_pos h]; omega
    · rw [readF, if_neg h]
      exact readF_hit f (k + 1) j (by by_cases e : j = k
                                      · subst e; exact absurd h3 h
                                      · omega) (by omega) h3
/-- The entry is read from its cursor. -/
theorem readC_cursor {x m : Int} (h1 : 0 ≤ x ∧ x ≤ 40) (h2 : 1 ≤ m ∧ m ≤ 40) : readC (cursorB x m) m = x := by
  rcases readC_range (cursorB x m) m with h | ⟨a, b, _, h⟩
  · rw [readC_yes h2] at h
    exact absurd h (readF_hit 41 0 x.toNat (by omega) (by omega) (by rw [Int.toNat_of_nonneg h1.1]))
  · exact (cursor_inj ⟨a, b⟩ h2 h1 h2 h).1
/-- What was read with one page size is refused with the next. -/
theorem readC_other {s : ByteArray} {m : Int} (h : 0 ≤ readC s m) : readC s (m + 1) = -1 := by
  rcases readC_range s m with h' | ⟨a, b, hm, e⟩
  · omega
  · rcases readC_range s (m + 1) with h' | ⟨a', b', hm', e'⟩
    · exact h'
    · have := cursor_inj ⟨a, b⟩ hm ⟨a', b'⟩ hm' (e.trans e'.symm)
      omega
end Go.Proofs.Ytocaopabpjfhhaa
