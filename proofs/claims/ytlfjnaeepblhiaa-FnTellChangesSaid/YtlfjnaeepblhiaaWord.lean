/- The contracts of WordValid, the program's and the reference's, and of the laws' fixed answer. -/
import Derived.Test.YtlfjnaeepblhiaaBase
namespace Go.Proofs.Ytlfjnaeepblhiaa
open Go.RowKit
set_option linter.unusedVariables false

abbrev isSm (c : Nat) : Prop := 97 ≤ c ∧ c ≤ 122
abbrev isWc (c : Nat) : Prop := (48 ≤ c ∧ c ≤ 57) ∨ (97 ≤ c ∧ c ≤ 122)
/-- The byte at a place, as a number; 0 past the end. -/
def byteAt (s : ByteArray) (j : Nat) : Nat := (s.data.toList.getD j 0).toNat
def wordP (s : ByteArray) : Prop := 1 ≤ s.size ∧ s.size ≤ 8 ∧ isSm (byteAt s 0) ∧ ∀ j, j < s.size → isWc (byteAt s j)
instance (s : ByteArray) : Decidable (wordP s) := by unfold wordP; infer_instance
/-- What WordValid returns. -/
@[irreducible] def wordV (s : ByteArray) : Bool := decide (wordP s)
theorem wordV_yes {s : ByteArray} (h : wordP s) : wordV s = true := by unfold wordV; exact decide_eq_true h
theorem wordV_no {s : ByteArray} (h : ¬ wordP s) : wordV s = false := by unfold wordV; exact decide_eq_false h
theorem wordV_iff {s : ByteArray} : wordV s = true ↔ wordP s := by unfold wordV; exact decide_eq_true_iff

@[irreducible] def dv (c : Int) : Int := if 48 ≤ c ∧ c ≤ 57 then c - 48 else if 97 ≤ c ∧ c ≤ 122 then c - 87 else -1
theorem byteAt_get {s : ByteArray} {j : Nat} (h : j < s.size) : byteAt s j = (s[j]).toNat := by
  have h' : j < s.data.toList.length := by simpa using h
  unfold byteAt
  rw [List.getD_eq_getElem?_getD, List.getElem?_eq_getElem h']
  rfl
theorem byteAt_lt (s : ByteArray) (j : Nat) : byteAt s j ≤ 255 := by
  unfold byteAt; have := (s.data.toList.getD j 0).toNat_lt; omega

theorem digit_any (c : Int) (h0 : 0 ≤ c) (h1 : c ≤ 255) (w : World) : Calls Try.prog 78 #[.int .u8 c] w fun e w' => e = .returned (.int .i64 (dv c)) ∧ w = w' := by
  by_cases a : 48 ≤ c ∧ c ≤ 57
  · have E := hid_ (show dv c = c - 48 by unfold dv; rw [if_pos a])
    obtain ⟨a1, a2⟩ := a
    go_enter Try.func78, Try.ntmps78
    go_wp2
    go_ret
    exact ⟨ret_i64 E.out.symm, rfl⟩
  · by_cases b : 97 ≤ c ∧ c ≤ 122
    · have E := hid_ (show dv c = c - 87 by unfold dv; rw [if_neg a, if_pos b])
      obtain ⟨b1, b2⟩ := b
      have a' : 57 < c := by omega
      clear a
      go_enter Try.func78, Try.ntmps78
      go_wp2
      go_ret
      exact ⟨ret_i64 (by rw [E.out]; omega), rfl⟩
    · have E := hid_ (show dv c = -1 by unfold dv; rw [if_neg a, if_neg b])
      by_cases x1 : c < 48
      · clear a b
        go_enter Try.func78, Try.ntmps78
        go_wp2
        go_ret
        exact ⟨ret_i64 E.out.symm, rfl⟩
      · by_cases x2 : c < 97
        · have x3 : 57 < c := by omega
          clear a b
          go_enter Try.func78, Try.ntmps78
          go_wp2
          go_ret
          exact ⟨ret_i64 E.out.symm, rfl⟩
        · have x3 : 122 < c := by omega
          clear a b
          go_enter Try.func78, Try.ntmps78
          go_wp2
          go_ret
          exact ⟨ret_i64 E.out.symm, rfl⟩

theorem dv_neg {c : Int} (h0 : 0 ≤ c) : dv c < 0 ↔ ¬ isWc c.toNat := by
  unfold dv
  split
  · constructor
    · omega
    · intro h; exact absurd (Or.inl ⟨by omega, by omega⟩) h
  · split
    · constructor
      · omega
      · intro h; exact absurd (Or.inr ⟨by omega, by omega⟩) h
    · constructor
      · intro _ h; unfold isWc at h; omega
      · omega

theorem wordI_any (s : ByteArray) (w : World) (hs : s.size ≤ 9223372036854775807) : Calls Try.prog 47 #[.string s] w fun e w' => e = .returned (.bool (wordV s)) ∧ w = w' := by
  by_cases h1 : 1 ≤ s.size
  · by_cases h8 : s.size ≤ 8
    · have hb := byteAt_get (s := s) (j := 0) (by omega)
      by_cases hsm : isSm (byteAt s 0)
      · have hsm' : 97 ≤ (s[0]'(by omega)).toNat ∧ (s[0]'(by omega)).toNat ≤ 122 := by rw [← hb]; exact hsm
        obtain ⟨a1, a2⟩ := hsm'
        have HB := hid_ hb
        have HSM := hid_ hsm
        have R0 := hid_ (show ∀ j, j < 1 → isWc (byteAt s j) from fun j hj => by
          rw [show j = 0 by omega]; exact Or.inr hsm)
        clear hb hsm
        go_enter Try.func47, Try.ntmps47
        go_wp2
        go_loop [3] (fun i => ∃ k : Nat, 1 ≤ k ∧ k ≤ s.size ∧ i = .int .i64 k ∧ Hid (∀ j, j < k → isWc (byteAt s j))) (fun i => s.size - (intOf i).toNat)
        case atStart => exact ⟨1, by omega, by omega, rfl, R0⟩
        case round =>
          obtain ⟨k, hk1, hk, rfl, hr⟩ := hrel
          by_cases hlt : k < s.size
          · have hbk := byteAt_get (s := s) (j := k) hlt
            have hub := byteAt_lt s k
            rw [hbk] at hub
            by_cases hc : isWc (byteAt s k)
            · have hd : ¬ dv (s[k].toNat : Int) < 0 := by rw [dv_neg (by omega), Int.toNat_natCast, ← hbk]; exact fun h => h hc
              have R := hid_ (show ∀ j, j < k + 1 → isWc (byteAt s j) from fun j hj => by
                by_cases e : j = k
                · rw [e]; exact hc
                · exact hr.out j (by omega))
              clear hbk hc hr
              go_wp2_with (go_at_call 78; refine (digit_any _ (by omega) (by omega) _).mono ?_; rintro e w' ⟨rfl, rfl⟩)
              go_round
              case rel => exact ⟨k + 1, by omega, by omega, by go_num, R⟩
              case measure => simp [intOf]; omega
            · have hd : dv (s[k].toNat : Int) < 0 := by rw [dv_neg (by omega), Int.toNat_natCast, ← hbk]; exact hc
              have R := hid_ (wordV_no (s := s) (fun h => hc (h.2.2.2 k hlt)))
              clear hbk hc hr
              go_wp2_with (go_at_call 78; refine (digit_any _ (by omega) (by omega) _).mono ?_; rintro e w' ⟨rfl, rfl⟩)
              go_ret
              exact ⟨ret_bool R.out.symm, rfl⟩
          · obtain rfl : k = s.size := by omega
            have R := hid_ (wordV_yes (s := s) ⟨h1, h8, HSM.out, hr.out⟩)
            clear hr
            go_wp2
            go_ret
            exact ⟨ret_bool R.out.symm, rfl⟩
      · rw [wordV_no (fun h => hsm h.2.2.1)]
        rw [hb] at hsm
        by_cases x1 : (s[0]'(by omega)).toNat < 97
        · clear hb hsm
          go_enter Try.func47, Try.ntmps47
          go_wp2
          go_ret
          exact ⟨rfl, rfl⟩
        · have x2 : 122 < (s[0]'(by omega)).toNat := by unfold isSm at hsm; omega
          clear hb hsm
          go_enter Try.func47, Try.ntmps47
          go_wp2
          go_ret
          exact ⟨rfl, rfl⟩
    · rw [wordV_no (fun h => h8 h.2.1)]
      go_enter Try.func47, Try.ntmps47
      go_wp2
      go_ret
      exact ⟨rfl, rfl⟩
  · rw [wordV_no (fun h => h1 h.1)]
    go_enter Try.func47, Try.ntmps47
    go_wp2
    go_ret
    exact ⟨rfl, rfl⟩

def GoodTo (s : ByteArray) (k : Nat) : Prop := ∀ j, j < k → isWc (byteAt s j) ∧ (j = 0 → isSm (byteAt s j))
theorem goodTo_next {s : ByteArray} {k : Nat} (h : GoodTo s k) (h1 : isWc (byteAt s k)) (h2 : k = 0 → isSm (byteAt s k)) : GoodTo s (k + 1) := by
  intro j hj
  by_cases e : j = k
  · subst e; exact ⟨h1, h2⟩
  · exact h j (by omega)
theorem goodTo_end {s : ByteArray} (h : GoodTo s s.size) : wordV s = inB s.size 1 8 := by
  by_cases hb : (1 : Int) ≤ s.size ∧ (s.size : Int) ≤ 8
  · rw [inB_yes hb, wordV_yes]
    exact ⟨by omega, by omega, (h 0 (by omega)).2 rfl, fun j hj => (h j hj).1⟩
  · rw [inB_no hb, wordV_no]
    exact fun h => hb ⟨by have := h.1; omega, by have := h.2.1; omega⟩
theorem word_bad {s : ByteArray} {k : Nat} (hk : k < s.size) (h : ¬ isWc (byteAt s k) ∨ (k = 0 ∧ ¬ isSm (byteAt s k))) : wordV s = false := by
  refine wordV_no fun hw => ?_
  rcases h with h | ⟨rfl, h⟩
  · exact h (hw.2.2.2 k hk)
  · exact h hw.2.2.1

theorem wordS_any (s : ByteArray) (w : World) (hs : s.size ≤ 9223372036854775807) : Calls Try.prog 77 #[.string s] w fun e w' => e = .returned (.bool (wordV s)) ∧ w = w' := by
  have G0 := hid_ (show GoodTo s 0 from fun j hj => by omega)
  go_enter Try.func77, Try.ntmps77
  go_wp2
  go_loop [3] (fun i => ∃ k : Nat, k ≤ s.size ∧ i = .int .i64 k ∧ Hid (GoodTo s k)) (fun i => s.size - (intOf i).toNat)
  case atStart => exact ⟨0, by omega, rfl, G0⟩
  case round =>
    obtain ⟨k, hk, rfl, hr⟩ := hrel
    by_cases hlt : k < s.size
    · have hbk := byteAt_get (s := s) (j := k) hlt
      have hub := byteAt_lt s k
      rw [hbk] at hub
      by_cases hsm : 97 ≤ s[k].toNat ∧ s[k].toNat ≤ 122
      · have R := hid_ (goodTo_next hr.out (Or.inr (by rw [hbk]; exact hsm)) (fun _ => by rw [hbk]; exact hsm))
        obtain ⟨c1, c2⟩ := hsm
        clear hbk hr
        go_wp2
        go_round
        case rel => exact ⟨k + 1, by omega, by go_num, R⟩
        case measure => simp [intOf]; omega
      · by_cases hk0 : k = 0
        · have R := hid_ (word_bad hlt (Or.inr ⟨hk0, by rw [hbk]; exact hsm⟩))
          have hb0 : ((k : Int) == 0) = true := by rw [hk0]; rfl
          by_cases c1 : 97 ≤ s[k].toNat
          · have c2 : 122 < s[k].toNat := by omega
            have hd : decide ((s[k].toNat : Int) ≤ 122) = false := by simp; omega
            clear hbk hr hsm hk0
            go_wp2
            go_ret
            exact ⟨ret_bool R.out.symm, rfl⟩
          · clear hbk hr hsm hk0
            go_wp2
            go_ret
            exact ⟨ret_bool R.out.symm, rfl⟩
        · have hb0 : ((k : Int) == 0) = false := by simpa using hk0
          by_cases hdg : 48 ≤ s[k].toNat ∧ s[k].toNat ≤ 57
          · have R := hid_ (goodTo_next hr.out (Or.inl (by rw [hbk]; exact hdg)) (fun e => absurd e hk0))
            obtain ⟨d1, d2⟩ := hdg
            clear hbk hr hsm hk0
            go_wp2
            go_round
            case rel => exact ⟨k + 1, by omega, by go_num, R⟩
            case measure => simp [intOf]; omega
          · have R := hid_ (word_bad hlt (Or.inl (by rw [hbk]; unfold isWc; omega)))
            by_cases d1 : s[k].toNat < 48
            · clear hbk hr hsm hk0 hdg
              go_wp2
              go_ret
              exact ⟨ret_bool R.out.symm, rfl⟩
            · have d2 : 57 < s[k].toNat := by omega
              by_cases c1 : 97 ≤ s[k].toNat
              · have c2 : 122 < s[k].toNat := by omega
                have hd : decide ((s[k].toNat : Int) ≤ 122) = false := by simp; omega
                clear hbk hr hsm hk0 hdg
                go_wp2
                go_ret
                exact ⟨ret_bool R.out.symm, rfl⟩
              · clear hbk hr hsm hk0 hdg
                go_wp2
                go_ret
                exact ⟨ret_bool R.out.symm, rfl⟩
    · obtain rfl : k = s.size := by omega
      have R := hid_ (goodTo_end hr.out)
      clear hr
      go_wp2_with (go_at_call 65; refine (l1In_any _ _ _ _).mono ?_; rintro e w' ⟨rfl, rfl⟩)
      go_ret
      exact ⟨ret_bool R.out.symm, rfl⟩

theorem alive_any (w : World) : Calls Try.prog 12 #[] w fun e w' => e = .returned (.bool true) ∧ w = w' := by
  have h1 : wordV ⟨#[97, 49]⟩ = true := wordV_yes (by decide +kernel)
  have h2 : wordV ⟨#[49, 97]⟩ = false := wordV_no (by decide +kernel)
  go_enter Try.func12, Try.ntmps12
  go_wp2_with (go_at_call 47; refine (wordI_any _ _ (by decide +kernel)).mono ?_; rintro e w' ⟨rfl, rfl⟩)
  go_ret
  exact ⟨rfl, rfl⟩
end Go.Proofs.Ytlfjnaeepblhiaa
