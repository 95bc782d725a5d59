/- The contracts of TextValid, DigestMore and DigestOf, the program's and the reference's. -/
import Derived.Test.YtcpepjnmjiffcaaBase
import Derived.Test.YtcpepjnmjiffcaaWord
namespace Go.Proofs.Ytcpepjnmjiffcaa
open Go.RowKit
set_option linter.unusedVariables false

def textP (s : ByteArray) : Prop := s.size ≤ 80 ∧ ∀ j, j < s.size → 32 ≤ byteAt s j ∧ byteAt s j ≤ 126
instance (s : ByteArray) : Decidable (textP s) := by unfold textP; infer_instance
/-- What TextValid returns. -/
@[irreducible] def textV (s : ByteArray) : Bool := decide (textP s)
theorem textV_yes {s : ByteArray} (h : textP s) : textV s = true := by unfold textV; exact decide_eq_true h
theorem textV_no {s : ByteArray} (h : ¬ textP s) : textV s = false := by unfold textV; exact decide_eq_false h
theorem textV_iff {s : ByteArray} : textV s = true ↔ textP s := by unfold textV; exact decide_eq_true_iff
def PlainTo (s : ByteArray) (k : Nat) : Prop := ∀ j, j < k → 32 ≤ byteAt s j ∧ byteAt s j ≤ 126
theorem plainTo_next {s : ByteArray} {k : Nat} (h : PlainTo s k) (h1 : 32 ≤ byteAt s k ∧ byteAt s k ≤ 126) : PlainTo s (k + 1) := by
  intro j hj
  by_cases e : j = k
  · subst e; exact h1
  · exact h j (by omega)
theorem plainTo_end {s : ByteArray} (h : PlainTo s s.size) : textV s = decide ((s.size : Int) ≤ 80) := by
  by_cases hb : s.size ≤ 80
  · rw [textV_yes ⟨hb, h⟩]; symm; simp; omega
  · rw [textV_no (fun h' => hb h'.1)]; symm; simp; omega
theorem textS_any (s : ByteArray) (w : World) (hs : s.size ≤ 9223372036854775807) : Calls Try.prog 67 #[.string s] w fun e w' => e = .returned (.bool (textV s)) ∧ w = w' := by
  have G0 := hid_ (show PlainTo s 0 from fun j hj => by omega)
  go_enter Try.func67, Try.ntmps67
  go_wp2
  go_loop [3] (fun i => ∃ k : Nat, k ≤ s.size ∧ i = .int .i64 k ∧ Hid (PlainTo s k)) (fun i => s.size - (intOf i).toNat)
  case atStart => exact ⟨0, by omega, rfl, G0⟩
  case round =>
    obtain ⟨k, hk, rfl, hr⟩ := hrel
    by_cases hlt : k < s.size
    · have hbk := byteAt_get (s := s) (j := k) hlt
      by_cases c1 : s[k].toNat < 32
      · have R := hid_ (textV_no (s := s) (fun h => by have := h.2 k hlt; omega))
        clear hbk hr
        go_wp2
        go_ret
        exact ⟨ret_bool R.out.symm, rfl⟩
      · by_cases c2 : 126 < s[k].toNat
        · have R := hid_ (textV_no (s := s) (fun h => by have := h.2 k hlt; omega))
          clear hbk hr
          go_wp2
          go_ret
          exact ⟨ret_bool R.out.symm, rfl⟩
        · have R := hid_ (plainTo_next hr.out (by omega))
          clear hbk hr
          go_wp2
          go_round
          case rel => exact ⟨k + 1, by omega, by go_num, R⟩
          case measure => simp [intOf]; omega
    · obtain rfl : k = s.size := by omega
      have R := hid_ (plainTo_end hr.out)
      clear hr
      go_wp2
      go_ret
      exact ⟨ret_bool R.out.symm, rfl⟩
theorem textI_any (s : ByteArray) (w : World) (hs : s.size ≤ 9223372036854775807) : Calls Try.prog 56 #[.string s] w fun e w' => e = .returned (.bool (textV s)) ∧ w = w' := by
  by_cases hn : 80 < s.size
  · have R := hid_ (textV_no (s := s) (fun h => by have := h.1; omega))
    go_enter Try.func56, Try.ntmps56
    go_wp2
    go_ret
    exact ⟨ret_bool R.out.symm, rfl⟩
  have G0 := hid_ (show PlainTo s 0 from fun j hj => by omega)
  go_enter Try.func56, Try.ntmps56
  go_wp2
  go_loop [3] (fun i => ∃ k : Nat, k ≤ s.size ∧ i = .int .i64 k ∧ Hid (PlainTo s k)) (fun i => s.size - (intOf i).toNat)
  case atStart => exact ⟨0, by omega, rfl, G0⟩
  case round =>
    obtain ⟨k, hk, rfl, hr⟩ := hrel
    by_cases hlt : k < s.size
    · have hbk := byteAt_get (s := s) (j := k) hlt
      by_cases c1 : s[k].toNat < 32
      · have R := hid_ (textV_no (s := s) (fun h => by have := h.2 k hlt; omega))
        clear hbk hr
        go_wp2
        go_ret
        exact ⟨ret_bool R.out.symm, rfl⟩
      · by_cases c2 : 126 < s[k].toNat
        · have R := hid_ (textV_no (s := s) (fun h => by have := h.2 k hlt; omega))
          clear hbk hr
          go_wp2
          go_ret
          exact ⟨ret_bool R.out.symm, rfl⟩
        · have R := hid_ (plainTo_next hr.out (by omega))
          clear hbk hr
          go_wp2
          go_round
          case rel => exact ⟨k + 1, by omega, by go_num, R⟩
          case measure => simp [intOf]; omega
    · obtain rfl : k = s.size := by omega
      have R := hid_ (plainTo_end hr.out)
      clear hr
      have hn' : decide ((s.size : Int) ≤ 80) = true := by simp; omega
      go_wp2
      go_ret
      exact ⟨ret_bool (by rw [R.out, hn']), rfl⟩
/-- The digest of the first k bytes. -/
def digTo (s : ByteArray) : Nat → Nat
  | 0 => 1
  | k + 1 => (257 * digTo s k + byteAt s k) % 999983
theorem digTo_lt (s : ByteArray) : ∀ k, digTo s k < 999983
  | 0 => by simp [digTo]
  | k + 1 => Nat.mod_lt _ (by omega)
/-- What DigestOf returns. -/
@[irreducible] def digF (s : ByteArray) : Int := if textP s then (digTo s s.size : Int) else -1
theorem digF_yes {s : ByteArray} (h : textP s) : digF s = (digTo s s.size : Int) := by unfold digF; rw [if_pos h]
theorem digF_no {s : ByteArray} (h : ¬ textP s) : digF s = -1 := by unfold digF; rw [if_neg h]
theorem digMore_yes (d b : Nat) (hd : d < 999983) (hb : 32 ≤ b ∧ b ≤ 126) (w : World) :
    Calls Try.prog 71 #[.int .i64 d, .int .i64 b] w fun e w' => e = .returned (.int .i64 (((257 * d + b) % 999983 : Nat) : Int)) ∧ w = w' := by
  have e1 := inB_yes (n := (d : Int)) (lo := 0) (hi := 999982) (by omega)
  have e2 := inB_yes (n := (b : Int)) (lo := 32) (hi := 126) (by omega)
  have hc : (257 * (d : Int) + (b : Int)) % 999983 = (((257 * d + b) % 999983 : Nat) : Int) := by omega
  have R := hid_ hc
  clear hc
  go_enter Try.func71, Try.ntmps71
  go_wp2_with (go_at_call 39; refine (within_any _ _ _ _).mono ?_; rintro e w' ⟨rfl, rfl⟩)
  go_ret
  exact ⟨ret_i64 R.out, rfl⟩
theorem digI_any (s : ByteArray) (w : World) (hs : s.size ≤ 9223372036854775807) : Calls Try.prog 58 #[.string s] w fun e w' => e = .returned (.int .i64 (digF s)) ∧ w = w' := by
  by_cases ht : textP s
  · have h1 := textV_yes ht
    have R0 := hid_ (digF_yes ht)
    have T := hid_ ht
    have h80 := ht.1
    clear ht
    go_enter Try.func58, Try.ntmps58
    go_wp2_with (go_at_call 56; refine (textI_any _ _ hs).mono ?_; rintro e w' ⟨rfl, rfl⟩)
    go_loop [3, 4] (fun d i => ∃ k : Nat, k ≤ s.size ∧ i = .int .i64 k ∧ d = .int .i64 (digTo s k : Nat)) (fun _ i => s.size - (intOf i).toNat)
    case atStart => exact ⟨0, by omega, rfl, rfl⟩
    case round =>
      obtain ⟨k, hk, rfl, rfl⟩ := hrel
      have hd := digTo_lt s k
      by_cases hlt : k < s.size
      · have hbk := byteAt_get (s := s) (j := k) hlt
        have hb := T.out.2 k hlt
        rw [hbk] at hb
        have hu : IntKind.i64.wrap (s[k].toNat : Int) = s[k].toNat := IntWalk.i64_in _ ⟨by omega, by omega⟩
        have hn := hid_ (show digTo s (k + 1) = (257 * digTo s k + s[k].toNat) % 999983 by rw [← hbk]; rfl)
        clear hbk
        go_wp2_with (go_at_call 71; refine (digMore_yes _ _ hd hb _).mono ?_; rintro e w' ⟨rfl, rfl⟩)
        go_round
        case rel => exact ⟨k + 1, by omega, by go_num, by rw [hn.out]; congr 1⟩
        case measure => simp [intOf]; omega
      · obtain rfl : k = s.size := by omega
        go_wp2
        go_ret
        exact ⟨ret_i64 R0.out.symm, rfl⟩
  · have h1 := textV_no ht
    have R0 := hid_ (digF_no ht)
    clear ht
    go_enter Try.func58, Try.ntmps58
    go_wp2_with (go_at_call 56; refine (textI_any _ _ hs).mono ?_; rintro e w' ⟨rfl, rfl⟩)
    go_ret
    exact ⟨ret_i64 R0.out.symm, rfl⟩
theorem digS_any (s : ByteArray) (w : World) (hs : s.size ≤ 9223372036854775807) : Calls Try.prog 69 #[.string s] w fun e w' => e = .returned (.int .i64 (digF s)) ∧ w = w' := by
  by_cases ht : textP s
  · have h1 := textV_yes ht
    have R0 := hid_ (digF_yes ht)
    have T := hid_ ht
    have h80 := ht.1
    clear ht
    go_enter Try.func69, Try.ntmps69
    go_wp2_with (go_at_call 67; refine (textS_any _ _ hs).mono ?_; rintro e w' ⟨rfl, rfl⟩)
    go_loop [3, 4] (fun d i => ∃ k : Nat, k ≤ s.size ∧ i = .int .i64 k ∧ d = .int .i64 (digTo s k : Nat)) (fun _ i => s.size - (intOf i).toNat)
    case atStart => exact ⟨0, by omega, rfl, rfl⟩
    case round =>
      obtain ⟨k, hk, rfl, rfl⟩ := hrel
      have hd := digTo_lt s k
      by_cases hlt : k < s.size
      · have hbk := byteAt_get (s := s) (j := k) hlt
        have hb := T.out.2 k hlt
        rw [hbk] at hb
        have hu : IntKind.i64.wrap (s[k].toNat : Int) = s[k].toNat := IntWalk.i64_in _ ⟨by omega, by omega⟩
        have hn := hid_ (show ((257 * (digTo s k : Int) + (s[k].toNat : Int)) % 999983 : Int) = (digTo s (k + 1) : Nat) by rw [show digTo s (k + 1) = (257 * digTo s k + byteAt s k) % 999983 from rfl, hbk]; omega)
        clear hbk
        go_wp2
        go_round
        case rel => exact ⟨k + 1, by omega, by go_num, by rw [hn.out]⟩
        case measure => simp [intOf]; omega
      · obtain rfl : k = s.size := by omega
        go_wp2
        go_ret
        exact ⟨ret_i64 R0.out.symm, rfl⟩
  · have h1 := textV_no ht
    have R0 := hid_ (digF_no ht)
    clear ht
    go_enter Try.func69, Try.ntmps69
    go_wp2_with (go_at_call 67; refine (textS_any _ _ hs).mono ?_; rintro e w' ⟨rfl, rfl⟩)
    go_ret
    exact ⟨ret_i64 R0.out.symm, rfl⟩
end Go.Proofs.Ytcpepjnmjiffcaa
