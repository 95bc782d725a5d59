/- The contracts of InverseMod, the program's and the reference's: both return the inverse, by Euclid's algorithm. -/
import Derived.Test.YtcpepjnmjiffcaaModuli
namespace Go.Proofs.Ytcpepjnmjiffcaa
open Go.RowKit
set_option linter.unusedVariables false

/-- r is the inverse of a modulo m, or -1 if there is none. -/
def InvP (a m : Nat) (r : Int) : Prop := (∃ x : Nat, r = x ∧ x < m ∧ a * x % m = 1) ∨ (r = -1 ∧ ∀ x : Nat, a * x % m ≠ 1)
theorem inv_unique {a m x y : Nat} (hm : 2 ≤ m) (hx : x < m) (hy : y < m) (h1 : a * x % m = 1) (h2 : a * y % m = 1) : x = y := by
  have e1 : (a * x) * y % m = y % m := by rw [Nat.mul_mod, h1, Nat.one_mul, Nat.mod_mod]
  have e2 : (a * x) * y % m = x % m := by
    rw [Nat.mul_right_comm, Nat.mul_mod, h2, Nat.one_mul, Nat.mod_mod]
  rw [Nat.mod_eq_of_lt hx] at e2
  rw [Nat.mod_eq_of_lt hy] at e1
  omega
theorem invP_unique {a m : Nat} (hm : 2 ≤ m) {r s : Int} (h : InvP a m r) (h' : InvP a m s) : r = s := by
  rcases h with ⟨x, rfl, hx, h1⟩ | ⟨rfl, h1⟩ <;> rcases h' with ⟨y, rfl, hy, h2⟩ | ⟨rfl, h2⟩
  · rw [inv_unique hm hx hy h1 h2]
  · exact absurd h1 (h2 x)
  · exact absurd h2 (h1 y)
  · rfl
/-- What InverseMod returns. -/
def invOk (a m : Int) : Prop := (2 ≤ m ∧ m ≤ 1000000) ∧ (0 ≤ a ∧ a ≤ m - 1)
instance (a m : Int) : Decidable (invOk a m) := by unfold invOk; infer_instance
@[irreducible] noncomputable def invF (a m : Int) : Int := if invOk a m then @Classical.epsilon Int ⟨0⟩ (fun r => InvP a.toNat m.toNat r) else -1
theorem invF_no {a m : Int} (h : ¬ invOk a m) : invF a m = -1 := by unfold invF; rw [if_neg h]
theorem invF_of {a m : Nat} (h : invOk a m) {r : Int} (hr : InvP a m r) : invF a m = r := by
  unfold invF
  rw [if_pos h]
  have hm := h.1
  exact invP_unique (by omega) (by have := @Classical.epsilon_spec _ (fun r => InvP (a : Int).toNat (m : Int).toNat r) ⟨r, by simpa using hr⟩; simpa using this) hr

/-- The state of Euclid's algorithm: a divides and a rest, and how often a was taken for each. -/
structure Euc (a m r n : Nat) (t u : Int) : Prop where
  lt : n < r
  le : r ≤ m
  ct : ∃ c : Int, t * a = r + c * m
  cu : ∃ c : Int, u * a = n + c * m
  sg : (t ≤ 0 ∧ 0 ≤ u ∧ (-t) * n + u * r = m) ∨ (0 ≤ t ∧ u ≤ 0 ∧ t * n + (-u) * r = m)
  gcd : Nat.gcd r n = Nat.gcd m a

theorem euc_start {a m : Nat} (h : a < m) : Euc a m m a 0 1 :=
  ⟨h, Nat.le_refl _, ⟨-1, by simp; omega⟩, ⟨0, by simp⟩, .inl ⟨by omega, by omega, by simp⟩, rfl⟩
theorem euc_bound {a m r n : Nat} {t u : Int} (h : Euc a m r n t u) (hm : m ≤ 1000000) : -1000000 ≤ u ∧ u ≤ 1000000 ∧ (0 < n → -1000000 ≤ t ∧ t ≤ 1000000) := by
  have h1 := h.lt
  have hr : (1 : Int) ≤ r := by omega
  rcases h.sg with ⟨h2, h3, h4⟩ | ⟨h2, h3, h4⟩
  · have p1 : 0 ≤ (-t) * (n : Int) := Int.mul_nonneg (by omega) (by omega)
    have p2 : u * 1 ≤ u * (r : Int) := Int.mul_le_mul_of_nonneg_left hr h3
    refine ⟨by omega, by omega, fun hn => ?_⟩
    have p3 : (-t) * 1 ≤ (-t) * (n : Int) := Int.mul_le_mul_of_nonneg_left (by omega) (by omega)
    have p4 : 0 ≤ u * (r : Int) := Int.mul_nonneg h3 (by omega)
    omega
  · have p1 : 0 ≤ t * (n : Int) := Int.mul_nonneg h2 (by omega)
    have p2 : (-u) * 1 ≤ (-u) * (r : Int) := Int.mul_le_mul_of_nonneg_left hr (by omega)
    refine ⟨by omega, by omega, fun hn => ?_⟩
    have p3 : t * 1 ≤ t * (n : Int) := Int.mul_le_mul_of_nonneg_left (by omega) h2
    have p4 : 0 ≤ (-u) * (r : Int) := Int.mul_nonneg (by omega) (by omega)
    omega
theorem euc_step {a m r n : Nat} {t u : Int} (h : Euc a m r n t u) (hn : 0 < n) : Euc a m n (r % n) u (t - (r / n : Nat) * u) := by
  have hr : (r : Int) = n * (r / n : Nat) + (r % n : Nat) := by
    have := Nat.div_add_mod r n
    rw [← Int.natCast_mul]; omega
  obtain ⟨c, hc⟩ := h.ct
  obtain ⟨d, hd⟩ := h.cu
  have h1 := h.lt
  have h2 := h.le
  refine ⟨Nat.mod_lt _ hn, by omega, ⟨d, hd⟩, ⟨c - (r / n : Nat) * d, ?_⟩, ?_, ?_⟩
  · rw [Int.sub_mul, hc, Int.mul_assoc, hd, Int.mul_add, Int.sub_mul, Int.mul_assoc]
    rw [Int.mul_comm ((r / n : Nat) : Int) (n : Int)]
    omega
  · have key : ∀ x y : Int, y * (r % n : Nat) + (x + (r / n : Nat) * y) * n = x * n + y * r := by
      intro x y
      rw [hr, Int.add_mul, Int.mul_add, Int.mul_comm ((r / n : Nat) : Int) y, Int.mul_assoc, Int.mul_comm ((r / n : Nat) : Int) (n : Int)]
      omega
    have q0 : (0 : Int) ≤ ((r / n : Nat) : Int) := Int.natCast_nonneg _
    generalize ((r / n : Nat) : Int) = Q at key q0 ⊢
    clear hc hd hr
    rcases h.sg with ⟨h3, h4, h5⟩ | ⟨h3, h4, h5⟩
    · refine .inr ⟨h4, ?_, ?_⟩
      · have := Int.mul_nonneg q0 h4; generalize Q * u = P at this ⊢; omega
      · have := key (-t) u
        rw [show -(t - Q * u) = -t + Q * u by omega]
        omega
    · refine .inl ⟨h4, ?_, ?_⟩
      · have := Int.mul_nonneg q0 (show 0 ≤ -u by omega)
        rw [Int.mul_neg] at this; generalize Q * u = P at this ⊢; omega
      · have := key t (-u)
        rw [Int.mul_neg] at this
        rw [show t - Q * u = t + -(Q * u) by omega]
        omega
  · rw [← h.gcd, Nat.gcd_comm r n, Nat.gcd_rec n r, Nat.gcd_comm]
theorem euc_end {a m r : Nat} {t u : Int} (h : Euc a m r 0 t u) : r = Nat.gcd m a := by
  have := h.gcd; rwa [Nat.gcd_zero_right] at this
theorem inv_none {a m r : Nat} {t u : Int} (hm : 2 ≤ m) (h : Euc a m r 0 t u) (h1 : r ≠ 1) : InvP a m (-1) := by
  refine .inr ⟨rfl, fun x hx => h1 ?_⟩
  have hd1 : r ∣ a := euc_end h ▸ Nat.gcd_dvd_right m a
  have hd2 : r ∣ m := euc_end h ▸ Nat.gcd_dvd_left m a
  have h3 : r ∣ a * x % m := (Nat.dvd_mod_iff hd2).2 (Nat.dvd_trans hd1 (Nat.dvd_mul_right a x))
  rw [hx] at h3
  exact Nat.dvd_one.1 h3
/-- How Go brings a number into 0..m-1. -/
theorem inv_some {a m : Nat} {t u : Int} (hm : 2 ≤ m) (hm' : m ≤ 1000000) (h : Euc a m 1 0 t u) : InvP a m ((t.tmod m + m).tmod m) := by
  obtain ⟨c, hc⟩ := h.ct
  have e : (t.tmod m + m).tmod m = t % m := by
    have h1 := Int.tmod_lt_of_pos t (show (0 : Int) < m by omega)
    have h2 : -(m : Int) < t.tmod m := by
      have := Int.lt_tmod_of_pos t (show (0 : Int) < m by omega); omega
    rw [Int.tmod_eq_emod_of_nonneg (by omega), Int.add_emod_right]
    rw [Int.tmod_def, Int.sub_mul_emod_self_left]
  rw [e]
  have n0 : 0 ≤ t % (m : Int) := Int.emod_nonneg _ (by omega)
  have n1 : t % (m : Int) < m := Int.emod_lt_of_pos _ (by omega)
  refine .inl ⟨(t % (m : Int)).toNat, by omega, by omega, ?_⟩
  have : ((a * (t % (m : Int)).toNat % m : Nat) : Int) = 1 := by
    rw [Int.natCast_emod, Int.natCast_mul, Int.toNat_of_nonneg n0, Int.mul_emod, Int.emod_emod, ← Int.mul_emod, Int.mul_comm, hc]
    rw [Int.add_mul_emod_self_right]
    exact Int.emod_eq_of_lt (by omega) (by omega)
  omega

theorem invI_nat (a m : Nat) (h : invOk a m) (w : World) : Calls Try.prog 72 #[.int .i64 a, .int .i64 m] w fun e w' => e = .returned (.int .i64 (invF a m)) ∧ w = w' := by
  have F := hid_ (fun r => @invF_of a m h r)
  obtain ⟨hm, ha⟩ := h
  have b1 := inB_yes hm
  have b2 := inB_yes ha
  have R0 := hid_ (euc_start (a := a) (m := m) (by omega))
  go_enter Try.func72, Try.ntmps72
  go_wp2_with (go_at_call 39; refine (within_any _ _ _ _).mono ?_; rintro e w' ⟨rfl, rfl⟩)
  clear b1 b2
  go_loop [5, 6, 7, 8] (fun r n t u => ∃ (r' n' : Nat) (t' u' : Int), r = .int .i64 r' ∧ n = .int .i64 n' ∧ t = .int .i64 t' ∧ u = .int .i64 u' ∧ r' ≤ m ∧ Hid (Euc a m r' n' t' u')) (fun _ n _ _ => (intOf n).toNat)
  case atStart => exact ⟨m, a, 0, 1, rfl, rfl, rfl, rfl, Nat.le_refl _, R0⟩
  case round =>
    obtain ⟨r, n, t, u, rfl, rfl, rfl, rfl, hr, R⟩ := hrel
    have B := euc_bound R.out (by omega)
    have hnr := R.out.lt
    by_cases hn : 0 < n
    · obtain ⟨u1, u2, B3⟩ := B
      obtain ⟨t1, t2⟩ := B3 hn
      have hb : ((n : Int) != 0) = true := by rw [bne_iff_ne]; omega
      have hq : ((r / n : Nat) : Int) = (r : Int) / n := Int.natCast_ediv _ _
      have S := euc_step R.out hn
      rw [hq] at S
      obtain ⟨v1, v2, _⟩ := euc_bound S (by omega)
      have hmod : (r : Int) - (r : Int) / n * n = ((r % n : Nat) : Int) := by
        have h1 := Nat.div_add_mod r n
        rw [← hq, ← Int.natCast_mul, Nat.mul_comm]; omega
      have f0 : 0 ≤ (r : Int) / n := by rw [← hq]; exact Int.natCast_nonneg _
      have f1 : (r : Int) / n ≤ 1000000 := by rw [← hq]; have := Nat.div_le_self r n; omega
      have f2 : 0 ≤ (r : Int) / n * n ∧ (r : Int) / n * n ≤ 1000000 := by
        have h0 : (0 : Int) ≤ ((r % n : Nat) : Int) := Int.natCast_nonneg _
        rw [← hmod] at h0
        have h1 := Int.mul_nonneg f0 (show (0 : Int) ≤ n by omega)
        generalize (r : Int) / n * n = P at h0 h1 ⊢
        omega
      have f3 : -2000000 ≤ (r : Int) / n * u ∧ (r : Int) / n * u ≤ 2000000 := by generalize (r : Int) / n * u = P at v1 v2 ⊢; omega
      obtain ⟨f2a, f2b⟩ := f2
      obtain ⟨f3a, f3b⟩ := f3
      have S := hid_ S
      have M := hid_ hmod
      have hlt : r % n < n := Nat.mod_lt _ hn
      clear hmod hq B3 R
      go_wp2
      go_round
      case rel => exact ⟨n, r % n, u, t - (r : Int) / n * u, rfl, by rw [M.out], rfl, rfl, by omega, S⟩
      case measure => rw [M.out]; simp only [intOf]; omega
    · obtain rfl : n = 0 := by omega
      obtain ⟨u1, u2, _⟩ := B
      by_cases h1 : r = 1
      · subst h1
        have hb : (((1 : Nat) : Int) != 1) = false := rfl
        have t1 := Int.tmod_lt_of_pos t (show (0 : Int) < m by omega)
        have t2 : -(m : Int) < t.tmod m := by
          have := Int.lt_tmod_of_pos t (show (0 : Int) < m by omega); omega
        have X0 := F.out _ (inv_some (by omega) (by omega) R.out)
        rw [Int.tmod_eq_emod_of_nonneg (by omega)] at X0
        have X := hid_ X0
        clear R X0
        go_wp2
        go_ret
        exact ⟨ret_i64 (by rw [X.out]; simp), rfl⟩
      · have hb : ((r : Int) != 1) = true := by rw [bne_iff_ne]; omega
        have X := hid_ (inv_none (by omega) R.out h1)
        clear R h1
        go_wp2
        go_ret
        exact ⟨ret_i64 (F.out _ X.out).symm, rfl⟩
theorem invI_any (a m : Int) (w : World) : Calls Try.prog 72 #[.int .i64 a, .int .i64 m] w fun e w' => e = .returned (.int .i64 (invF a m)) ∧ w = w' := by
  by_cases h : invOk a m
  · have h' := h
    obtain ⟨hm, ha⟩ := h'
    obtain ⟨a', rfl⟩ := Int.eq_ofNat_of_zero_le ha.1
    obtain ⟨m', rfl⟩ := Int.eq_ofNat_of_zero_le (show 0 ≤ m by omega)
    exact invI_nat a' m' h w
  · rw [invF_no h]
    by_cases hm : 2 ≤ m ∧ m ≤ 1000000
    · have b1 := inB_yes hm
      have b2 := inB_no (n := a) (lo := 0) (hi := m - 1) (fun ha => h ⟨hm, ha⟩)
      clear h
      go_enter Try.func72, Try.ntmps72
      go_wp2_with (go_at_call 39; refine (within_any _ _ _ _).mono ?_; rintro e w' ⟨rfl, rfl⟩)
      go_ret
      exact ⟨rfl, rfl⟩
    · have b1 := inB_no hm
      clear h hm
      go_enter Try.func72, Try.ntmps72
      go_wp2_with (go_at_call 39; refine (within_any _ _ _ _).mono ?_; rintro e w' ⟨rfl, rfl⟩)
      go_ret
      exact ⟨rfl, rfl⟩
theorem invS_nat (a m : Nat) (h : invOk a m) (w : World) : Calls Try.prog 60 #[.int .i64 a, .int .i64 m] w fun e w' => e = .returned (.int .i64 (invF a m)) ∧ w = w' := by
  have F := hid_ (fun r => @invF_of a m h r)
  obtain ⟨hm, ha⟩ := h
  have b1 := inB_yes hm
  have b2 := inB_yes ha
  have R0 := hid_ (euc_start (a := a) (m := m) (by omega))
  go_enter Try.func60, Try.ntmps60
  go_wp2_with (go_at_call 37; refine (l1In_any _ _ _ _).mono ?_; rintro e w' ⟨rfl, rfl⟩)
  clear b1 b2
  go_loop [5, 6, 7, 8] (fun t u r n => ∃ (r' n' : Nat) (t' u' : Int), r = .int .i64 r' ∧ n = .int .i64 n' ∧ t = .int .i64 t' ∧ u = .int .i64 u' ∧ r' ≤ m ∧ ((r' = a ∧ n' = m ∧ t' = 1 ∧ u' = 0) ∨ Hid (Euc a m r' n' t' u'))) (fun _ _ _ n => (intOf n).toNat)
  case atStart => exact ⟨a, m, 1, 0, rfl, rfl, rfl, rfl, by omega, .inl ⟨rfl, rfl, rfl, rfl⟩⟩
  case round =>
    obtain ⟨r, n, t, u, rfl, rfl, rfl, rfl, hr, R⟩ := hrel
    rcases R with ⟨rfl, rfl, rfl, rfl⟩ | R
    · have hb : ((n : Int) != 0) = true := by rw [bne_iff_ne]; omega
      have hq : ((r : Int) / (n : Int)) = 0 := Int.ediv_eq_zero_of_lt (by omega) (by omega)
      go_wp2
      go_round
      case rel => exact ⟨n, r, 0, 1, rfl, by simp, rfl, by simp, Nat.le_refl _, .inr R0⟩
      case measure => simp [intOf]; omega
    have B := euc_bound R.out (by omega)
    have hnr := R.out.lt
    by_cases hn : 0 < n
    · obtain ⟨u1, u2, B3⟩ := B
      obtain ⟨t1, t2⟩ := B3 hn
      have hb : ((n : Int) != 0) = true := by rw [bne_iff_ne]; omega
      have hq : ((r / n : Nat) : Int) = (r : Int) / n := Int.natCast_ediv _ _
      have S := euc_step R.out hn
      rw [hq] at S
      obtain ⟨v1, v2, _⟩ := euc_bound S (by omega)
      have hmod : (r : Int) - (r : Int) / n * n = ((r % n : Nat) : Int) := by
        have h1 := Nat.div_add_mod r n
        rw [← hq, ← Int.natCast_mul, Nat.mul_comm]; omega
      have f0 : 0 ≤ (r : Int) / n := by rw [← hq]; exact Int.natCast_nonneg _
      have f1 : (r : Int) / n ≤ 1000000 := by rw [← hq]; have := Nat.div_le_self r n; omega
      have f2 : 0 ≤ (r : Int) / n * n ∧ (r : Int) / n * n ≤ 1000000 := by
        have h0 : (0 : Int) ≤ ((r % n : Nat) : Int) := Int.natCast_nonneg _
        rw [← hmod] at h0
        have h1 := Int.mul_nonneg f0 (show (0 : Int) ≤ n by omega)
        generalize (r : Int) / n * n = P at h0 h1 ⊢
        omega
      have f3 : -2000000 ≤ (r : Int) / n * u ∧ (r : Int) / n * u ≤ 2000000 := by generalize (r : Int) / n * u = P at v1 v2 ⊢; omega
      obtain ⟨f2a, f2b⟩ := f2
      obtain ⟨f3a, f3b⟩ := f3
      have S := hid_ S
      have M := hid_ hmod
      have hlt : r % n < n := Nat.mod_lt _ hn
      clear hmod hq B3 R
      go_wp2
      go_round
      case rel => exact ⟨n, r % n, u, t - (r : Int) / n * u, rfl, by rw [M.out], rfl, rfl, by omega, .inr S⟩
      case measure => rw [M.out]; simp only [intOf]; omega
    · obtain rfl : n = 0 := by omega
      obtain ⟨u1, u2, _⟩ := B
      by_cases h1 : r = 1
      · subst h1
        have hb : (((1 : Nat) : Int) != 1) = false := rfl
        have t1 := Int.tmod_lt_of_pos t (show (0 : Int) < m by omega)
        have t2 : -(m : Int) < t.tmod m := by
          have := Int.lt_tmod_of_pos t (show (0 : Int) < m by omega); omega
        have X0 := F.out _ (inv_some (by omega) (by omega) R.out)
        rw [Int.tmod_eq_emod_of_nonneg (by omega)] at X0
        have X := hid_ X0
        clear R X0
        go_wp2
        go_ret
        exact ⟨ret_i64 (by rw [X.out]; simp), rfl⟩
      · have hb : ((r : Int) != 1) = true := by rw [bne_iff_ne]; omega
        have X := hid_ (inv_none (by omega) R.out h1)
        clear R h1
        go_wp2
        go_ret
        exact ⟨ret_i64 (F.out _ X.out).symm, rfl⟩
theorem invS_any (a m : Int) (w : World) : Calls Try.prog 60 #[.int .i64 a, .int .i64 m] w fun e w' => e = .returned (.int .i64 (invF a m)) ∧ w = w' := by
  by_cases h : invOk a m
  · have h' := h
    obtain ⟨hm, ha⟩ := h'
    obtain ⟨a', rfl⟩ := Int.eq_ofNat_of_zero_le ha.1
    obtain ⟨m', rfl⟩ := Int.eq_ofNat_of_zero_le (show 0 ≤ m by omega)
    exact invS_nat a' m' h w
  · rw [invF_no h]
    by_cases hm : 2 ≤ m ∧ m ≤ 1000000
    · have b1 := inB_yes hm
      have b2 := inB_no (n := a) (lo := 0) (hi := m - 1) (fun ha => h ⟨hm, ha⟩)
      clear h
      go_enter Try.func60, Try.ntmps60
      go_wp2_with (go_at_call 37; refine (l1In_any _ _ _ _).mono ?_; rintro e w' ⟨rfl, rfl⟩)
      go_ret
      exact ⟨rfl, rfl⟩
    · have b1 := inB_no hm
      clear h hm
      go_enter Try.func60, Try.ntmps60
      go_wp2_with (go_at_call 37; refine (l1In_any _ _ _ _).mono ?_; rintro e w' ⟨rfl, rfl⟩)
      go_ret
      exact ⟨rfl, rfl⟩
end Go.Proofs.Ytcpepjnmjiffcaa
