/- The contracts of MarkText, the program's and the reference's: both return markB, the digits of a number in the base 36. -/
import Derived.Test.YtocaopabpjfhhaaBase
namespace Go.Proofs.Ytocaopabpjfhhaa
open Go.RowKit

/-- The digit of a number below 36. -/
def dg (d : Nat) : UInt8 := if d < 10 then UInt8.ofNat (48 + d) else UInt8.ofNat (87 + d)
/-- The digits of a number below 36 to the power of the first argument. -/
def markF : Nat → Nat → List UInt8
  | 0, _ => []
  | f + 1, n => if n < 36 then [dg n] else markF f (n / 36) ++ [dg (n % 36)]
def markL (n : Nat) : List UInt8 := markF 6 n
/-- What MarkText returns. -/
@[irreducible] def markB (n : Int) : ByteArray := if 0 ≤ n ∧ n ≤ 1000000000 then ⟨(markL n.toNat).toArray⟩ else ⟨#[]⟩

theorem markF_length (f n : Nat) : (markF f n).length ≤ f := by
  induction f generalizing n with
  | zero => simp [markF]
  | succ f ih => rw [markF]; split <;> simp; have := ih (n / 36); omega
theorem markB_size (n : Int) : (markB n).size ≤ 6 := by
  unfold markB
  split
  · show (markL n.toNat).toArray.size ≤ 6
    simpa [markL] using markF_length 6 n.toNat
  · show (0 : Nat) ≤ 6; omega
def digitsB : ByteArray := ⟨#[48, 49, 50, 51, 52, 53, 54, 55, 56, 57, 97, 98, 99, 100, 101, 102, 103, 104, 105, 106, 107, 108, 109, 110, 111, 112, 113, 114, 115, 116, 117, 118, 119, 120, 121, 122]⟩
theorem digits_at : ∀ d, d < 36 → digitsB.extract d (d + 1) = ⟨#[dg d]⟩ := by decide +kernel
/-- After some rounds: k is left, s are the digits so far. -/
def MarkRel (n k : Nat) (s : ByteArray) : Prop := ∃ f, s.size + f = 6 ∧ k < 36 ^ (f + 1) ∧ markF 6 n = (if k < 36 then [] else markF f (k / 36)) ++ s.data.toList
theorem markRel_start (n : Nat) (hn : n ≤ 1000000000) : MarkRel n n ⟨#[dg (n % 36)]⟩ := by
  refine ⟨5, rfl, by omega, ?_⟩
  rw [markF]
  by_cases h : n < 36
  · rw [if_pos h, if_pos h, Nat.mod_eq_of_lt h]; rfl
  · rw [if_neg h, if_neg h]
theorem markRel_step {n k : Nat} {s : ByteArray} (hk : ¬ k < 36) (h : MarkRel n k s) : MarkRel n (k / 36) (⟨#[dg (k / 36 % 36)]⟩ ++ s) := by
  obtain ⟨f, hsz, hf, h⟩ := h
  rw [if_neg hk] at h
  match f, hsz, hf, h with
  | 0, _, hf, _ => omega
  | f + 1, hsz, hf, h =>
    refine ⟨f, by rw [ByteArray.size_append]; show 1 + s.size + f = 6; omega, by rw [Nat.pow_succ] at hf; omega, ?_⟩
    rw [h, markF]
    by_cases hq : k / 36 < 36
    · rw [if_pos hq, if_pos hq, Nat.mod_eq_of_lt hq]; simp
    · rw [if_neg hq, if_neg hq]; simp
theorem markRel_size {n k : Nat} {s : ByteArray} (h : MarkRel n k s) : s.size ≤ 6 := by obtain ⟨f, h, _⟩ := h; omega
theorem markRel_end {n k : Nat} {s : ByteArray} (hk : k < 36) (hn : n ≤ 1000000000) (h : MarkRel n k s) : s = markB n := by
  obtain ⟨f, _, _, h⟩ := h
  rw [if_pos hk] at h
  unfold markB markL
  rw [if_pos (by omega), Int.toNat_natCast, h]
  simp
theorem digit_slice (d : Int) (h0 : 0 ≤ d) (h1 : d < 36) (w : World) :
    (Instr.slice 9 (.string ⟨#[48, 49, 50, 51, 52, 53, 54, 55, 56, 57, 97, 98, 99, 100, 101, 102, 103, 104, 105, 106, 107, 108, 109, 110, 111, 112, 113, 114, 115, 116, 117, 118, 119, 120, 121, 122]⟩) (some (.int .i64 d)) (some (.int .i64 (d + 1))) none).run Try.prog w = .ok (.string ⟨#[dg d.toNat]⟩) w := by
  have e : digitsB.size = 36 := by decide +kernel
  have digits_fit : d + 1 ≤ (digitsB.size : Int) := by rw [e]; omega
  have h := run_slice_string (P := Try.prog) (w := w) 9 digitsB .i64 .i64 d (d + 1) Try.underlying9 h0 (by omega) digits_fit
  rw [show (d + 1).toNat = d.toNat + 1 from by omega, digits_at _ (by omega)] at h
  exact h

theorem markB_no {n : Int} (h : ¬ (0 ≤ n ∧ n ≤ 1000000000)) : markB n = ⟨#[]⟩ := by unfold markB; rw [if_neg h]
theorem markI_nat (n : Nat) (hn : n ≤ 1000000000) (w : World) : Calls Try.prog 48 #[.int .i64 n] w fun e w' => e = .returned (.string (markB n)) ∧ w = w' := by
  have hsl := fun W => digit_slice ((n : Int) % 36) (by omega) (by omega) W
  go_enter Try.func48, Try.ntmps48
  go_wp2
  clear hsl
  go_loop [0, 3] (fun c t => ∃ (k : Nat) (s : ByteArray), k ≤ 1000000000 ∧ c = .int .i64 k ∧ t = .string s ∧ MarkRel n k s) (fun c _ => (intOf c).toNat)
  case atStart => exact ⟨n, _, hn, rfl, rfl, markRel_start n hn⟩
  case round =>
    obtain ⟨k, s, hk, rfl, rfl, hs⟩ := hrel
    by_cases h : k < 36
    · go_wp2
      go_ret
      have e := markRel_end h hn hs
      subst e
      exact ⟨rfl, rfl⟩
    · have hz := markRel_size hs
      have hsl := fun W => digit_slice ((k : Int) / 36 % 36) (by omega) (by omega) W
      go_wp2
      go_round
      case rel => exact ⟨k / 36, _, by omega, by go_num, rfl, markRel_step h hs⟩
      case measure => simp [intOf]; omega
theorem markI_any (n : Int) (w : World) : Calls Try.prog 48 #[.int .i64 n] w fun e w' => e = .returned (.string (markB n)) ∧ w = w' := by
  by_cases h : 0 ≤ n ∧ n ≤ 1000000000
  · obtain ⟨k, rfl⟩ := Int.eq_ofNat_of_zero_le h.1
    exact markI_nat k (by omega) w
  · rw [markB_no h]
    by_cases h0 : n < 0
    all_goals
      go_enter Try.func48, Try.ntmps48
      go_wp2
      go_ret
      exact ⟨rfl, rfl⟩
theorem markS_nat (n : Nat) (hn : n ≤ 1000000000) (w : World) : Calls Try.prog 47 #[.int .i64 n] w fun e w' => e = .returned (.string (markB n)) ∧ w = w' := by
  have hsl := fun W => digit_slice ((n : Int) % 36) (by omega) (by omega) W
  go_enter Try.func47, Try.ntmps47
  have hb := inB_yes (n := n) (lo := 0) (hi := 1000000000) ⟨by omega, by omega⟩
  go_wp2_with (go_at_call 45; refine (l1In_any _ _ _ _).mono ?_; rintro e w' ⟨rfl, rfl⟩)
  clear hsl hb
  go_loop [0, 4] (fun c t => ∃ (k : Nat) (s : ByteArray), k ≤ 1000000000 ∧ c = .int .i64 k ∧ t = .string s ∧ MarkRel n k s) (fun c _ => (intOf c).toNat)
  case atStart => exact ⟨n, _, hn, rfl, rfl, markRel_start n hn⟩
  case round =>
    obtain ⟨k, s, hk, rfl, rfl, hs⟩ := hrel
    by_cases h : k < 36
    · go_wp2
      go_ret
      have e := markRel_end h hn hs
      subst e
      exact ⟨rfl, rfl⟩
    · have hz := markRel_size hs
      have hsl := fun W => digit_slice ((k : Int) / 36 % 36) (by omega) (by omega) W
      go_wp2
      go_round
      case rel => exact ⟨k / 36, _, by omega, by go_num, rfl, markRel_step h hs⟩
      case measure => simp [intOf]; omega
theorem markS_any (n : Int) (w : World) : Calls Try.prog 47 #[.int .i64 n] w fun e w' => e = .returned (.string (markB n)) ∧ w = w' := by
  by_cases h : 0 ≤ n ∧ n ≤ 1000000000
  · obtain ⟨k, rfl⟩ := Int.eq_ofNat_of_zero_le h.1
    exact markS_nat k (by omega) w
  · rw [markB_no h]
    have hb := inB_no h
    clear h
    go_enter Try.func47, Try.ntmps47
    go_wp2_with (go_at_call 45; refine (l1In_any _ _ _ _).mono ?_; rintro e w' ⟨rfl, rfl⟩)
    go_ret
    exact ⟨rfl, rfl⟩
end Go.Proofs.Ytocaopabpjfhhaa
