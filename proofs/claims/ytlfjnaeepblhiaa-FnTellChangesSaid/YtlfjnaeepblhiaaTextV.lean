/- The contracts of TextValid, the program's and the reference's. -/
import Derived.Test.YtlfjnaeepblhiaaWord
namespace Go.Proofs.Ytlfjnaeepblhiaa
open Go.RowKit
set_option linter.unusedVariables false
abbrev isTc (c : Nat) : Prop := 32 ≤ c ∧ c ≤ 126
def textP (s : ByteArray) : Prop := s.size ≤ 80 ∧ ∀ j, j < s.size → isTc (byteAt s j)
instance (s : ByteArray) : Decidable (textP s) := by unfold textP; infer_instance
/-- What TextValid returns. -/
@[irreducible] def textV (s : ByteArray) : Bool := decide (textP s)
theorem textV_yes {s : ByteArray} (h : textP s) : textV s = true := by unfold textV; exact decide_eq_true h
theorem textV_no {s : ByteArray} (h : ¬ textP s) : textV s = false := by unfold textV; exact decide_eq_false h
theorem textV_iff {s : ByteArray} : textV s = true ↔ textP s := by unfold textV; exact decide_eq_true_iff
def TcTo (s : ByteArray) (k : Nat) : Prop := ∀ j, j < k → isTc (byteAt s j)
theorem tcTo_next {s : ByteArray} {k : Nat} (h : TcTo s k) (h1 : isTc (byteAt s k)) : TcTo s (k + 1) := by
  intro j hj
  by_cases e : j = k
  · subst e; exact h1
  · exact h j (by omega)
theorem textI_any (s : ByteArray) (w : World) (hs : s.size ≤ 9223372036854775807) : Calls Try.prog 86 #[.string s] w fun e w' => e = .returned (.bool (textV s)) ∧ w = w' := by
  by_cases h8 : s.size ≤ 80
  · have G0 := hid_ (show TcTo s 0 from fun j hj => by omega)
    go_enter Try.func86, Try.ntmps86
    go_wp2
    go_loop [3] (fun i => ∃ k : Nat, k ≤ s.size ∧ i = .int .i64 k ∧ Hid (TcTo s k)) (fun i => s.size - (intOf i).toNat)
    case atStart => exact ⟨0, by omega, rfl, G0⟩
    case round =>
      obtain ⟨k, hk, rfl, hr⟩ := hrel
      by_cases hlt : k < s.size
      · have hbk := byteAt_get (s := s) (j := k) hlt
        have hub := byteAt_lt s k
        rw [hbk] at hub
        by_cases c0 : s[k].toNat < 32
        · have R := hid_ (textV_no (s := s) fun h => by have := h.2 k hlt; rw [hbk] at this; omega)
          clear hbk hr
          go_wp2
          go_ret
          exact ⟨ret_bool R.out.symm, rfl⟩
        · by_cases c1 : 126 < s[k].toNat
          · have R := hid_ (textV_no (s := s) fun h => by have := h.2 k hlt; rw [hbk] at this; omega)
            clear hbk hr
            go_wp2
            go_ret
            exact ⟨ret_bool R.out.symm, rfl⟩
          · have R := hid_ (tcTo_next hr.out (by rw [hbk]; exact ⟨by omega, by omega⟩))
            clear hbk hr
            go_wp2
            go_round
            case rel => exact ⟨k + 1, by omega, by go_num, R⟩
            case measure => simp [intOf]; omega
      · obtain rfl : k = s.size := by omega
        have R := hid_ (textV_yes (s := s) ⟨h8, hr.out⟩)
        clear hr
        go_wp2
        go_ret
        exact ⟨ret_bool R.out.symm, rfl⟩
  · rw [textV_no (fun h => h8 h.1)]
    go_enter Try.func86, Try.ntmps86
    go_wp2
    go_ret
    exact ⟨rfl, rfl⟩
theorem textS_any (s : ByteArray) (w : World) (hs : s.size ≤ 9223372036854775807) : Calls Try.prog 90 #[.string s] w fun e w' => e = .returned (.bool (textV s)) ∧ w = w' := by
  have G0 := hid_ (show TcTo s 0 from fun j hj => by omega)
  go_enter Try.func90, Try.ntmps90
  go_wp2
  go_loop [3] (fun i => ∃ k : Nat, k ≤ s.size ∧ i = .int .i64 k ∧ Hid (TcTo s k)) (fun i => s.size - (intOf i).toNat)
  case atStart => exact ⟨0, by omega, rfl, G0⟩
  case round =>
    obtain ⟨k, hk, rfl, hr⟩ := hrel
    by_cases hlt : k < s.size
    · have hbk := byteAt_get (s := s) (j := k) hlt
      have hub := byteAt_lt s k
      rw [hbk] at hub
      by_cases c0 : s[k].toNat < 32
      · have R := hid_ (textV_no (s := s) fun h => by have := h.2 k hlt; rw [hbk] at this; omega)
        clear hbk hr
        go_wp2
        go_ret
        exact ⟨ret_bool R.out.symm, rfl⟩
      · by_cases c1 : 126 < s[k].toNat
        · have R := hid_ (textV_no (s := s) fun h => by have := h.2 k hlt; rw [hbk] at this; omega)
          clear hbk hr
          go_wp2
          go_ret
          exact ⟨ret_bool R.out.symm, rfl⟩
        · have R := hid_ (tcTo_next hr.out (by rw [hbk]; exact ⟨by omega, by omega⟩))
          clear hbk hr
          go_wp2
          go_round
          case rel => exact ⟨k + 1, by omega, by go_num, R⟩
          case measure => simp [intOf]; omega
    · obtain rfl : k = s.size := by omega
      by_cases h8 : s.size ≤ 80
      · have R := hid_ (textV_yes (s := s) ⟨h8, hr.out⟩)
        clear hr
        go_wp2
        go_ret
        exact ⟨ret_bool (by rw [R.out]; simp; omega), rfl⟩
      · have R := hid_ (textV_no (s := s) fun h => h8 h.1)
        clear hr
        go_wp2
        go_ret
        exact ⟨ret_bool (by rw [R.out]; simp; omega), rfl⟩
end Go.Proofs.Ytlfjnaeepblhiaa
