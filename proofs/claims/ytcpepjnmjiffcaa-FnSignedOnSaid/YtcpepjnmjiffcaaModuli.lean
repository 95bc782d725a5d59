/- The contracts of MulMod, PowMod, InverseMod, IsPrime and OpenNumber, the program's and the reference's. -/
import Derived.Test.YtcpepjnmjiffcaaBase
import Derived.Test.YtcpepjnmjiffcaaNumbers
namespace Go.Proofs.Ytcpepjnmjiffcaa
open Go.RowKit
set_option linter.unusedVariables false

/-- What PowMod returns. -/
def powOk (a x m : Int) : Prop := (1 ≤ m ∧ m ≤ 1000000) ∧ (0 ≤ a ∧ a ≤ m - 1) ∧ (0 ≤ x ∧ x ≤ 1000000000)
instance (a x m : Int) : Decidable (powOk a x m) := by unfold powOk; infer_instance
@[irreducible] def powF (a x m : Int) : Int := if powOk a x m then ((a.toNat ^ x.toNat % m.toNat : Nat) : Int) else -1
theorem powF_yes {a x m : Int} (h : powOk a x m) : powF a x m = ((a.toNat ^ x.toNat % m.toNat : Nat) : Int) := by unfold powF; rw [if_pos h]
theorem powF_no {a x m : Int} (h : ¬ powOk a x m) : powF a x m = -1 := by unfold powF; rw [if_neg h]
def PowRel (a x m p s e : Nat) : Prop := p * s ^ e % m = a ^ x % m
theorem powRel_odd {a x m p s e : Nat} (h : PowRel a x m p s e) (he : e % 2 = 1) : PowRel a x m (p * s % m) (s * s % m) (e / 2) := by
  unfold PowRel at *
  rw [← h, Nat.mul_mod, Nat.mod_mod, Nat.pow_mod, Nat.mod_mod, ← Nat.pow_mod, ← Nat.mul_mod, Nat.mul_assoc]
  congr 2
  rw [← Nat.pow_two, ← Nat.pow_mul]
  rw [← Nat.pow_succ']
  congr 1
  omega
theorem powRel_even {a x m p s e : Nat} (h : PowRel a x m p s e) (he : e % 2 = 0) : PowRel a x m p (s * s % m) (e / 2) := by
  unfold PowRel at *
  rw [← h, Nat.mul_mod, Nat.pow_mod, Nat.mod_mod, ← Nat.pow_mod, ← Nat.mul_mod]
  congr 2
  rw [← Nat.pow_two, ← Nat.pow_mul]
  congr 1
  omega
theorem powRel_end {a x m p s : Nat} (h : PowRel a x m p s 0) (hp : p < m) : p = a ^ x % m := by
  unfold PowRel at h
  rw [Nat.pow_zero, Nat.mul_one, Nat.mod_eq_of_lt hp] at h
  exact h
theorem cast_mul_mod (a b m : Nat) : (a : Int) * (b : Int) % (m : Int) = ((a * b % m : Nat) : Int) := by push_cast; rfl
theorem mul_bound {a b : Nat} (ha : a ≤ 1000000) (hb : b ≤ 1000000) : (a : Int) * (b : Int) ≤ 1000000000000 ∧ 0 ≤ (a : Int) * (b : Int) := by
  have h := Nat.mul_le_mul ha hb
  have h' : ((a * b : Nat) : Int) ≤ 1000000000000 := by omega
  rw [Int.natCast_mul] at h'
  exact ⟨h', by rw [← Int.natCast_mul]; omega⟩

theorem powI_nat (a x m : Nat) (h : powOk a x m) (w : World) : Calls Try.prog 70 #[.int .i64 a, .int .i64 x, .int .i64 m] w fun e w' => e = .returned (.int .i64 (powF a x m)) ∧ w = w' := by
  have E := hid_ (powF_yes h)
  obtain ⟨hm, ha, hx⟩ := h
  have b1 := inB_yes hm
  have b2 := inB_yes ha
  have b3 := inB_yes hx
  have R0 := hid_ (show PowRel a x m (1 % m) a x by unfold PowRel; rw [Nat.mul_mod, Nat.mod_mod, ← Nat.mul_mod, Nat.one_mul])
  have h1m : 1 % m < m := Nat.mod_lt _ (by omega)
  go_enter Try.func70, Try.ntmps70
  go_wp2_with (go_at_call 39; refine (within_any _ _ _ _).mono ?_; rintro e w' ⟨rfl, rfl⟩)
  clear b1 b2 b3
  go_loop [1, 7, 8] (fun e p s => ∃ e' p' s' : Nat, e = .int .i64 e' ∧ p = .int .i64 p' ∧ s = .int .i64 s' ∧ e' ≤ 1000000000 ∧ p' < m ∧ s' < m ∧ Hid (PowRel a x m p' s' e')) (fun e _ _ => (intOf e).toNat)
  case atStart => exact ⟨x, 1 % m, a, rfl, by go_num, rfl, by omega, h1m, by omega, R0⟩
  case round =>
    obtain ⟨e', p', s', rfl, rfl, rfl, he, hp, hs, hr⟩ := hrel
    clear R0 h1m
    by_cases h0 : 0 < e'
    · have mss := mul_bound (a := s') (b := s') (by omega) (by omega)
      have lss : s' * s' % m < m := Nat.mod_lt _ (by omega)
      by_cases hodd : e' % 2 = 1
      · have mps := mul_bound (a := p') (b := s') (by omega) (by omega)
        have lps : p' * s' % m < m := Nat.mod_lt _ (by omega)
        have R := hid_ (powRel_odd hr.out hodd)
        have hb : ((e' : Int) % 2 == 1) = true := by rw [beq_iff_eq]; omega
        clear hodd hr
        go_wp2
        go_round
        case rel => exact ⟨e' / 2, p' * s' % m, s' * s' % m, by go_num, by rw [← cast_mul_mod], by rw [← cast_mul_mod], by omega, lps, lss, R⟩
        case measure => simp [intOf]; omega
      · have R := hid_ (powRel_even hr.out (by omega))
        have hb : ((e' : Int) % 2 == 1) = false := by rw [beq_eq_false_iff_ne]; omega
        clear hodd hr
        go_wp2
        go_round
        case rel => exact ⟨e' / 2, p', s' * s' % m, by go_num, rfl, by rw [← cast_mul_mod], by omega, hp, lss, R⟩
        case measure => simp [intOf]; omega
    · obtain rfl : e' = 0 := by omega
      have R := hid_ (powRel_end hr.out hp)
      clear hr
      go_wp2
      go_ret
      exact ⟨ret_i64 (by rw [E.out, Int.toNat_natCast, Int.toNat_natCast, Int.toNat_natCast, ← R.out]), rfl⟩
theorem powI_any (a x m : Int) (w : World) : Calls Try.prog 70 #[.int .i64 a, .int .i64 x, .int .i64 m] w fun e w' => e = .returned (.int .i64 (powF a x m)) ∧ w = w' := by
  by_cases h : powOk a x m
  · have h' := h
    obtain ⟨hm, ha, hx⟩ := h'
    obtain ⟨a', rfl⟩ := Int.eq_ofNat_of_zero_le ha.1
    obtain ⟨x', rfl⟩ := Int.eq_ofNat_of_zero_le hx.1
    obtain ⟨m', rfl⟩ := Int.eq_ofNat_of_zero_le (show 0 ≤ m by omega)
    exact powI_nat a' x' m' h w
  · rw [powF_no h]
    by_cases hm : 1 ≤ m ∧ m ≤ 1000000
    · have b1 := inB_yes hm
      by_cases ha : 0 ≤ a ∧ a ≤ m - 1
      · have b2 := inB_yes ha
        have b3 := inB_no (n := x) (lo := 0) (hi := 1000000000) (fun hx => h ⟨hm, ha, hx⟩)
        clear h
        go_enter Try.func70, Try.ntmps70
        go_wp2_with (go_at_call 39; refine (within_any _ _ _ _).mono ?_; rintro e w' ⟨rfl, rfl⟩)
        go_ret
        exact ⟨rfl, rfl⟩
      · have b2 := inB_no ha
        clear h ha
        go_enter Try.func70, Try.ntmps70
        go_wp2_with (go_at_call 39; refine (within_any _ _ _ _).mono ?_; rintro e w' ⟨rfl, rfl⟩)
        go_ret
        exact ⟨rfl, rfl⟩
    · have b1 := inB_no hm
      clear h hm
      go_enter Try.func70, Try.ntmps70
      go_wp2_with (go_at_call 39; refine (within_any _ _ _ _).mono ?_; rintro e w' ⟨rfl, rfl⟩)
      go_ret
      exact ⟨rfl, rfl⟩
theorem powS_nat (a x m : Nat) (h : powOk a x m) (w : World) : Calls Try.prog 74 #[.int .i64 a, .int .i64 x, .int .i64 m] w fun e w' => e = .returned (.int .i64 (powF a x m)) ∧ w = w' := by
  have E := hid_ (powF_yes h)
  obtain ⟨hm, ha, hx⟩ := h
  have b1 := inB_yes hm
  have b2 := inB_yes ha
  have b3 := inB_yes hx
  have R0 := hid_ (show PowRel a x m (1 % m) a x by unfold PowRel; rw [Nat.mul_mod, Nat.mod_mod, ← Nat.mul_mod, Nat.one_mul])
  have h1m : 1 % m < m := Nat.mod_lt _ (by omega)
  go_enter Try.func74, Try.ntmps74
  go_wp2_with (go_at_call 37; refine (l1In_any _ _ _ _).mono ?_; rintro e w' ⟨rfl, rfl⟩)
  clear b1 b2 b3
  go_loop [0, 1, 7] (fun s e p => ∃ e' p' s' : Nat, e = .int .i64 e' ∧ p = .int .i64 p' ∧ s = .int .i64 s' ∧ e' ≤ 1000000000 ∧ p' < m ∧ s' < m ∧ Hid (PowRel a x m p' s' e')) (fun _ e _ => (intOf e).toNat)
  case atStart => exact ⟨x, 1 % m, a, rfl, by go_num, rfl, by omega, h1m, by omega, R0⟩
  case round =>
    obtain ⟨e', p', s', rfl, rfl, rfl, he, hp, hs, hr⟩ := hrel
    clear R0 h1m
    by_cases h0 : 0 < e'
    · have mss := mul_bound (a := s') (b := s') (by omega) (by omega)
      have lss : s' * s' % m < m := Nat.mod_lt _ (by omega)
      by_cases hodd : e' % 2 = 1
      · have mps := mul_bound (a := p') (b := s') (by omega) (by omega)
        have lps : p' * s' % m < m := Nat.mod_lt _ (by omega)
        have R := hid_ (powRel_odd hr.out hodd)
        have hb : ((e' : Int) % 2 == 1) = true := by rw [beq_iff_eq]; omega
        clear hodd hr
        go_wp2
        go_round
        case rel => exact ⟨e' / 2, p' * s' % m, s' * s' % m, by go_num, by rw [← cast_mul_mod], by rw [← cast_mul_mod], by omega, lps, lss, R⟩
        case measure => simp [intOf]; omega
      · have R := hid_ (powRel_even hr.out (by omega))
        have hb : ((e' : Int) % 2 == 1) = false := by rw [beq_eq_false_iff_ne]; omega
        clear hodd hr
        go_wp2
        go_round
        case rel => exact ⟨e' / 2, p', s' * s' % m, by go_num, rfl, by rw [← cast_mul_mod], by omega, hp, lss, R⟩
        case measure => simp [intOf]; omega
    · obtain rfl : e' = 0 := by omega
      have R := hid_ (powRel_end hr.out hp)
      clear hr
      go_wp2
      go_ret
      exact ⟨ret_i64 (by rw [E.out, Int.toNat_natCast, Int.toNat_natCast, Int.toNat_natCast, ← R.out]), rfl⟩
theorem powS_any (a x m : Int) (w : World) : Calls Try.prog 74 #[.int .i64 a, .int .i64 x, .int .i64 m] w fun e w' => e = .returned (.int .i64 (powF a x m)) ∧ w = w' := by
  by_cases h : powOk a x m
  · have h' := h
    obtain ⟨hm, ha, hx⟩ := h'
    obtain ⟨a', rfl⟩ := Int.eq_ofNat_of_zero_le ha.1
    obtain ⟨x', rfl⟩ := Int.eq_ofNat_of_zero_le hx.1
    obtain ⟨m', rfl⟩ := Int.eq_ofNat_of_zero_le (show 0 ≤ m by omega)
    exact powS_nat a' x' m' h w
  · rw [powF_no h]
    by_cases hm : 1 ≤ m ∧ m ≤ 1000000
    · have b1 := inB_yes hm
      by_cases ha : 0 ≤ a ∧ a ≤ m - 1
      · have b2 := inB_yes ha
        have b3 := inB_no (n := x) (lo := 0) (hi := 1000000000) (fun hx => h ⟨hm, ha, hx⟩)
        clear h
        go_enter Try.func74, Try.ntmps74
        go_wp2_with (go_at_call 37; refine (l1In_any _ _ _ _).mono ?_; rintro e w' ⟨rfl, rfl⟩)
        go_ret
        exact ⟨rfl, rfl⟩
      · have b2 := inB_no ha
        clear h ha
        go_enter Try.func74, Try.ntmps74
        go_wp2_with (go_at_call 37; refine (l1In_any _ _ _ _).mono ?_; rintro e w' ⟨rfl, rfl⟩)
        go_ret
        exact ⟨rfl, rfl⟩
    · have b1 := inB_no hm
      clear h hm
      go_enter Try.func74, Try.ntmps74
      go_wp2_with (go_at_call 37; refine (l1In_any _ _ _ _).mono ?_; rintro e w' ⟨rfl, rfl⟩)
      go_ret
      exact ⟨rfl, rfl⟩

/-- What MulMod returns. -/
def mulOk (a b m : Int) : Prop := (1 ≤ m ∧ m ≤ 1000000) ∧ (0 ≤ a ∧ a ≤ m - 1) ∧ (0 ≤ b ∧ b ≤ m - 1)
instance (a b m : Int) : Decidable (mulOk a b m) := by unfold mulOk; infer_instance
@[irreducible] def mulF (a b m : Int) : Int := if mulOk a b m then ((a.toNat * b.toNat % m.toNat : Nat) : Int) else -1
theorem mulF_yes {a b m : Int} (h : mulOk a b m) : mulF a b m = ((a.toNat * b.toNat % m.toNat : Nat) : Int) := by unfold mulF; rw [if_pos h]

/-- What OpenNumber returns. -/
@[irreducible] def openF (n x a : Int) : Int := if 3 ≤ x ∧ x ≤ 1000 then powF a x n else -1
theorem openF_yes {n x a : Int} (h : 3 ≤ x ∧ x ≤ 1000) : openF n x a = powF a x n := by unfold openF; rw [if_pos h]
theorem openF_no {n x a : Int} (h : ¬ (3 ≤ x ∧ x ≤ 1000)) : openF n x a = -1 := by unfold openF; rw [if_neg h]
theorem openI_any (n x a : Int) (w : World) : Calls Try.prog 57 #[.int .i64 n, .int .i64 x, .int .i64 a] w fun e w' => e = .returned (.int .i64 (openF n x a)) ∧ w = w' := by
  by_cases h : 3 ≤ x ∧ x ≤ 1000
  · rw [openF_yes h]
    have b := inB_yes h
    go_enter Try.func57, Try.ntmps57
    go_wp2_with (first
      | (go_at_call 39; refine (within_any _ _ _ _).mono ?_; rintro e w' ⟨rfl, rfl⟩)
      | (go_at_call 70; refine (powI_any _ _ _ _).mono ?_; rintro e w' ⟨rfl, rfl⟩))
    go_ret
    exact ⟨rfl, rfl⟩
  · rw [openF_no h]
    have b := inB_no h
    clear h
    go_enter Try.func57, Try.ntmps57
    go_wp2_with (go_at_call 39; refine (within_any _ _ _ _).mono ?_; rintro e w' ⟨rfl, rfl⟩)
    go_ret
    exact ⟨rfl, rfl⟩
theorem openS_any (n x a : Int) (w : World) : Calls Try.prog 73 #[.int .i64 n, .int .i64 x, .int .i64 a] w fun e w' => e = .returned (.int .i64 (openF n x a)) ∧ w = w' := by
  by_cases h : 3 ≤ x ∧ x ≤ 1000
  · rw [openF_yes h]
    have b := inB_yes h
    go_enter Try.func73, Try.ntmps73
    go_wp2_with (first
      | (go_at_call 37; refine (l1In_any _ _ _ _).mono ?_; rintro e w' ⟨rfl, rfl⟩)
      | (go_at_call 74; refine (powS_any _ _ _ _).mono ?_; rintro e w' ⟨rfl, rfl⟩))
    go_ret
    exact ⟨rfl, rfl⟩
  · rw [openF_no h]
    have b := inB_no h
    clear h
    go_enter Try.func73, Try.ntmps73
    go_wp2_with (go_at_call 37; refine (l1In_any _ _ _ _).mono ?_; rintro e w' ⟨rfl, rfl⟩)
    go_ret
    exact ⟨rfl, rfl⟩

/-- What IsPrime returns. -/
def primeP (n : Int) : Prop := (2 ≤ n ∧ n ≤ 1000) ∧ isP n.toNat
@[irreducible] noncomputable def primeV (n : Int) : Bool := @decide (primeP n) (Classical.propDecidable _)
theorem primeV_yes {n : Int} (h : primeP n) : primeV n = true := by unfold primeV; exact @decide_eq_true _ (Classical.propDecidable _) h
theorem primeV_no {n : Int} (h : ¬ primeP n) : primeV n = false := by unfold primeV; exact @decide_eq_false _ (Classical.propDecidable _) h
theorem primeV_iff {n : Int} : primeV n = true ↔ primeP n := by
  constructor
  · intro h
    refine Classical.byContradiction fun hn => ?_
    rw [primeV_no hn] at h; cases h
  · exact primeV_yes
theorem not_isP {n d : Nat} (hd : 2 ≤ d) (h : d * d ≤ n) (hm : n % d = 0) : ¬ isP n := fun hp => hp.2 d hd h hm
theorem primeI_nat (n : Nat) (h : 2 ≤ n ∧ n ≤ 1000) (w : World) : Calls Try.prog 62 #[.int .i64 n] w fun e w' => e = .returned (.bool (primeV n)) ∧ w = w' := by
  have b := inB_yes (n := (n : Int)) (lo := 2) (hi := 1000) (by omega)
  go_enter Try.func62, Try.ntmps62
  go_wp2_with (go_at_call 39; refine (within_any _ _ _ _).mono ?_; rintro e w' ⟨rfl, rfl⟩)
  clear b
  go_loop [3] (fun d => ∃ k : Nat, 2 ≤ k ∧ k ≤ 40 ∧ d = .int .i64 k ∧ Hid (∀ j, 2 ≤ j → j < k → n % j ≠ 0)) (fun d => 50 - (intOf d).toNat)
  case atStart => exact ⟨2, by omega, by omega, rfl, hid_ (fun j h1 h2 => by omega)⟩
  case round =>
    obtain ⟨k, k2, k40, rfl, hr⟩ := hrel
    have mkk := mul_bound (a := k) (b := k) (by omega) (by omega)
    by_cases hle : k * k ≤ n
    · have hle' : (k : Int) * (k : Int) ≤ n := by rw [← Int.natCast_mul]; omega
      have hk32 : k < 32 := by
        rcases Nat.lt_or_ge k 32 with h1 | h1
        · exact h1
        · have := Nat.mul_le_mul h1 h1; omega
      have hkn : k ≤ n := Nat.le_trans (Nat.le_mul_of_pos_left k (by omega)) hle
      by_cases hm : n % k = 0
      · have hb : ((n : Int) % (k : Int) == 0) = true := by rw [beq_iff_eq, ← Int.natCast_emod, hm]; rfl
        have R := hid_ (primeV_no (n := (n : Int)) (fun hp => not_isP (n := n) k2 hle hm (by simpa using hp.2)))
        clear hm hr hle
        go_wp2
        go_ret
        exact ⟨ret_bool R.out.symm, rfl⟩
      · have hb : ((n : Int) % (k : Int) == 0) = false := by rw [beq_eq_false_iff_ne, ← Int.natCast_emod]; omega
        have R := hid_ (show ∀ j, 2 ≤ j → j < k + 1 → n % j ≠ 0 from fun j h1 h2 => by
          by_cases e : j = k
          · rw [e]; exact hm
          · exact hr.out j h1 (by omega))
        clear hm hr hle
        go_wp2
        go_round
        case rel => exact ⟨k + 1, by omega, by omega, by go_num, R⟩
        case measure => simp [intOf]; omega
    · have hle' : (n : Int) < (k : Int) * (k : Int) := by rw [← Int.natCast_mul]; omega
      have R := hid_ (primeV_yes (n := (n : Int)) ⟨by omega, by rw [Int.toNat_natCast]; exact ⟨h.1, fun d h1 h2 => hr.out d h1 (by
        rcases Nat.lt_or_ge d k with h3 | h3
        · exact h3
        · have := Nat.mul_le_mul h3 h3; omega)⟩⟩)
      clear hr hle
      go_wp2
      go_ret
      exact ⟨ret_bool R.out.symm, rfl⟩
theorem primeI_any (n : Int) (w : World) : Calls Try.prog 62 #[.int .i64 n] w fun e w' => e = .returned (.bool (primeV n)) ∧ w = w' := by
  by_cases h : 2 ≤ n ∧ n ≤ 1000
  · obtain ⟨k, rfl⟩ := Int.eq_ofNat_of_zero_le (show 0 ≤ n by omega)
    exact primeI_nat k (by omega) w
  · rw [primeV_no (fun hp => h hp.1)]
    have b := inB_no h
    clear h
    go_enter Try.func62, Try.ntmps62
    go_wp2_with (go_at_call 39; refine (within_any _ _ _ _).mono ?_; rintro e w' ⟨rfl, rfl⟩)
    go_ret
    exact ⟨rfl, rfl⟩
theorem primeS_nat (n : Nat) (h : 2 ≤ n ∧ n ≤ 1000) (w : World) : Calls Try.prog 59 #[.int .i64 n] w fun e w' => e = .returned (.bool (primeV n)) ∧ w = w' := by
  have b := inB_yes (n := (n : Int)) (lo := 2) (hi := 1000) (by omega)
  have hn1000 : (n : Int) ≤ 1000 := by omega
  have B := hid_ b
  clear b
  go_enter Try.func59, Try.ntmps59
  go_wp2
  go_loop [3] (fun d => ∃ k : Nat, 2 ≤ k ∧ k ≤ 40 ∧ d = .int .i64 k ∧ Hid (∀ j, 2 ≤ j → j < k → n % j ≠ 0)) (fun d => 50 - (intOf d).toNat)
  case atStart => exact ⟨2, by omega, by omega, rfl, hid_ (fun j h1 h2 => by omega)⟩
  case round =>
    obtain ⟨k, k2, k40, rfl, hr⟩ := hrel
    have mkk := mul_bound (a := k) (b := k) (by omega) (by omega)
    by_cases hle : k * k ≤ n
    · have hle' : (k : Int) * (k : Int) ≤ n := by rw [← Int.natCast_mul]; omega
      have hk32 : k < 32 := by
        rcases Nat.lt_or_ge k 32 with h1 | h1
        · exact h1
        · have := Nat.mul_le_mul h1 h1; omega
      have hkn : k ≤ n := Nat.le_trans (Nat.le_mul_of_pos_left k (by omega)) hle
      by_cases hm : n % k = 0
      · have hb : ((n : Int) % (k : Int) == 0) = true := by rw [beq_iff_eq, ← Int.natCast_emod, hm]; rfl
        have R := hid_ (primeV_no (n := (n : Int)) (fun hp => not_isP (n := n) k2 hle hm (by simpa using hp.2)))
        clear hm hr hle
        go_wp2
        go_ret
        exact ⟨ret_bool R.out.symm, rfl⟩
      · have hb : ((n : Int) % (k : Int) == 0) = false := by rw [beq_eq_false_iff_ne, ← Int.natCast_emod]; omega
        have R := hid_ (show ∀ j, 2 ≤ j → j < k + 1 → n % j ≠ 0 from fun j h1 h2 => by
          by_cases e : j = k
          · rw [e]; exact hm
          · exact hr.out j h1 (by omega))
        clear hm hr hle
        go_wp2
        go_round
        case rel => exact ⟨k + 1, by omega, by omega, by go_num, R⟩
        case measure => simp [intOf]; omega
    · have hle' : (n : Int) < (k : Int) * (k : Int) := by rw [← Int.natCast_mul]; omega
      have R := hid_ (primeV_yes (n := (n : Int)) ⟨by omega, by rw [Int.toNat_natCast]; exact ⟨h.1, fun d h1 h2 => hr.out d h1 (by
        rcases Nat.lt_or_ge d k with h3 | h3
        · exact h3
        · have := Nat.mul_le_mul h3 h3; omega)⟩⟩)
      clear hr hle
      go_wp2_with (go_at_call 37; refine (l1In_any _ _ _ _).mono ?_; rintro e w' ⟨rfl, rfl⟩)
      go_ret
      exact ⟨ret_bool (by rw [R.out, B.out]), rfl⟩
theorem primeS_any (n : Int) (w : World) : Calls Try.prog 59 #[.int .i64 n] w fun e w' => e = .returned (.bool (primeV n)) ∧ w = w' := by
  by_cases h : 2 ≤ n ∧ n ≤ 1000
  · obtain ⟨k, rfl⟩ := Int.eq_ofNat_of_zero_le (show 0 ≤ n by omega)
    exact primeS_nat k (by omega) w
  · rw [primeV_no (fun hp => h hp.1)]
    have b := inB_no h
    by_cases h4 : 4 ≤ n
    · have h5 : 1000 < n := by omega
      clear h
      go_enter Try.func59, Try.ntmps59
      go_wp2
      go_loop [3] (fun d => d = .int .i64 2) (fun d => 50 - (intOf d).toNat)
      case atStart => exact rfl
      case round =>
        subst hrel
        go_wp2_with (go_at_call 37; refine (l1In_any _ _ _ _).mono ?_; rintro e w' ⟨rfl, rfl⟩)
        go_ret
        exact ⟨rfl, rfl⟩
    · have h5 : n < 4 := by omega
      clear h h4
      go_enter Try.func59, Try.ntmps59
      go_wp2
      go_loop [3] (fun d => d = .int .i64 2) (fun d => 50 - (intOf d).toNat)
      case atStart => exact rfl
      case round =>
        subst hrel
        go_wp2_with (go_at_call 37; refine (l1In_any _ _ _ _).mono ?_; rintro e w' ⟨rfl, rfl⟩)
        go_ret
        exact ⟨rfl, rfl⟩
end Go.Proofs.Ytcpepjnmjiffcaa
