/- The contracts of DigestOf, the program's and the reference's. -/
import Derived.Test.YtoagpfdhbcgdcaaDoorTextV
import Derived.Test.YtoagpfdhbcgdcaaDoorMore
namespace Go.Proofs.YtoagpfdhbcgdcaaDoor
open Go.RowKit
set_option linter.unusedVariables false
/-- The digest of the first k bytes. -/
def digTo (s : ByteArray) : Nat → Nat
  | 0 => 1
  | k + 1 => (257 * digTo s k + byteAt s k) % 999983
theorem digTo_lt (s : ByteArray) : ∀ k, digTo s k < 999983
  | 0 => by show 1 < 999983; omega
  | k + 1 => by unfold digTo; exact Nat.mod_lt _ (by omega)
/-- What DigestOf returns. -/
@[irreducible] def digV (s : ByteArray) : Int := if textV s = true then (digTo s s.size : Nat) else -1
theorem digV_yes {s : ByteArray} (h : textV s = true) : digV s = (digTo s s.size : Nat) := by unfold digV; rw [if_pos h]
theorem digV_no {s : ByteArray} (h : textV s = false) : digV s = -1 := by unfold digV; rw [if_neg (by rw [h]; simp)]
theorem digTo_next {s : ByteArray} {k q : Nat} {z : Int} (h : digTo s k = q) (e : z = (257 * (q : Int) + (byteAt s k : Nat)) % 999983) : z = (digTo s (k + 1) : Nat) := by
  subst e; subst h
  have : digTo s (k + 1) = (257 * digTo s k + byteAt s k) % 999983 := rfl
  rw [this]
  generalize digTo s k = a
  generalize byteAt s k = b
  omega
theorem digV_range (s : ByteArray) : -1 ≤ digV s ∧ digV s ≤ 999982 := by
  cases h : textV s with
  | false => rw [digV_no h]; omega
  | true => rw [digV_yes h]; have := digTo_lt s s.size; omega
theorem moreI_any (d b : Int) (w : World) (h0 : 0 ≤ d) (h1 : d ≤ 999982) (h2 : 32 ≤ b) (h3 : b ≤ 126) : Calls Tryd.prog 70 #[.int .i64 d, .int .i64 b] w fun e w' => e = .returned (.int .i64 ((257 * d + b) % 999983)) ∧ w = w' := by
  have b1 : inB d 0 999982 = true := inB_yes ⟨h0, h1⟩
  have b2 : inB b 32 126 = true := inB_yes ⟨h2, h3⟩
  have e1 := Int.tmod_eq_emod_of_nonneg (a := 257 * d + b) (b := 999983) (by omega)
  go_enter Tryd.func70, Tryd.ntmps70
  go_wp2_with (go_at_call 49; refine (within_any _ _ _ _).mono ?_; rintro e w' ⟨rfl, rfl⟩)
  go_ret
  exact ⟨rfl, rfl⟩
theorem digI_any (s : ByteArray) (w : World) (hs : s.size ≤ 9223372036854775807) : Calls Tryd.prog 33 #[.string s] w fun e w' => e = .returned (.int .i64 (digV s)) ∧ w = w' := by
  have C := fun W => textI_any s W hs
  cases hv : textV s with
  | false =>
    have R := hid_ (digV_no hv)
    rw [hv] at C
    go_enter Tryd.func33, Tryd.ntmps33
    go_wp2_with fail
    refine (C _).mono ?_
    rintro e w1 ⟨rfl, rfl⟩
    go_wp2
    go_ret
    exact ⟨ret_i64 R.out.symm, rfl⟩
  | true =>
    have R := hid_ (digV_yes hv)
    have HT := hid_ (textV_iff.1 hv).2
    rw [hv] at C
    clear hv
    go_enter Tryd.func33, Tryd.ntmps33
    go_wp2_with fail
    refine (C _).mono ?_
    rintro e w1 ⟨rfl, rfl⟩
    go_wp2
    go_loop [3, 4] (fun d i => ∃ k q : Nat, k ≤ s.size ∧ i = .int .i64 k ∧ d = .int .i64 q ∧ q ≤ 999982 ∧ Hid (digTo s k = q)) (fun _ i => s.size - (intOf i).toNat)
    case atStart => exact ⟨0, 1, by omega, rfl, rfl, by omega, rfl⟩
    case round =>
      obtain ⟨k, q, hk, rfl, rfl, hq, hd⟩ := hrel
      by_cases hlt : k < s.size
      · have hbk := byteAt_get (s := s) (j := k) hlt
        obtain ⟨c0, c1⟩ := HT.out k hlt
        rw [hbk] at c0 c1
        have HB := hid_ hbk
        clear hbk
        go_wp2_with fail
        refine (moreI_any q (s[k].toNat) _ (by omega) (by omega) (by omega) (by omega)).mono ?_
        rintro e w2 ⟨rfl, rfl⟩
        have N := hid_ (digTo_next (s := s) (k := k) hd.out (by rw [HB.out]))
        have hl := digTo_lt s (k + 1)
        clear hd
        rw [N.out]
        go_wp2
        go_round
        case rel => exact ⟨k + 1, digTo s (k + 1), by omega, by go_num, rfl, by omega, rfl⟩
        case measure => simp [intOf]; omega
      · obtain rfl : k = s.size := by omega
        have R2 := hid_ (show (q : Int) = digV s by rw [R.out, hd.out])
        clear hd R
        go_wp2
        go_ret
        exact ⟨ret_i64 R2.out, rfl⟩
theorem digS_any (s : ByteArray) (w : World) (hs : s.size ≤ 9223372036854775807) : Calls Tryd.prog 41 #[.string s] w fun e w' => e = .returned (.int .i64 (digV s)) ∧ Ext.of w w' := by
  have C := fun W => textS_any s W hs
  cases hv : textV s with
  | false =>
    have R := hid_ (digV_no hv)
    rw [hv] at C
    go_enter Tryd.func41, Tryd.ntmps41
    go_wp2_with fail
    refine (C _).mono ?_
    rintro e w1 ⟨rfl, rfl⟩
    go_wp2
    go_ret
    exact ⟨ret_i64 R.out.symm, Ext.of.refl _⟩
  | true =>
    have R := hid_ (digV_yes hv)
    have HT := hid_ (textV_iff.1 hv).2
    rw [hv] at C
    clear hv
    go_enter Tryd.func41, Tryd.ntmps41
    go_wp2_with fail
    refine (C _).mono ?_
    rintro e w1 ⟨rfl, rfl⟩
    go_wp2
    go_loopw [3, 4] (fun d i wr => ∃ k q : Nat, k ≤ s.size ∧ i = .int .i64 k ∧ d = .int .i64 q ∧ q ≤ 999982 ∧ Hid (digTo s k = q) ∧ Ext.of w wr) (fun _ i _ => s.size - (intOf i).toNat)
    case atStart => exact ⟨0, 1, by omega, rfl, rfl, by omega, rfl, Ext.of.refl _⟩
    case round =>
      obtain ⟨k, q, hk, rfl, rfl, hq, hd, hE⟩ := hrel
      by_cases hlt : k < s.size
      · have hbk := byteAt_get (s := s) (j := k) hlt
        obtain ⟨c0, c1⟩ := HT.out k hlt
        rw [hbk] at c0 c1
        have e1 := Int.tmod_eq_emod_of_nonneg (a := 257 * (q : Int) + (s[k].toNat : Int)) (b := 999983) (by omega)
        have N := hid_ (digTo_next (s := s) (k := k) hd.out (by rw [hbk]))
        have hl := digTo_lt s (k + 1)
        clear hd hbk
        rw [N.out] at e1
        go_wp2
        try go_quiet (fail)
        try go_wp2
        go_roundw
        case rel => exact ⟨k + 1, digTo s (k + 1), by omega, by go_num, rfl, by omega, rfl, hE⟩
        case measure => simp [intOf]; omega
      · obtain rfl : k = s.size := by omega
        have R2 := hid_ (show (q : Int) = digV s by rw [R.out, hd.out])
        clear hd R
        go_wp2
        go_ret
        exact ⟨ret_i64 R2.out, hE⟩
end Go.Proofs.YtoagpfdhbcgdcaaDoor
