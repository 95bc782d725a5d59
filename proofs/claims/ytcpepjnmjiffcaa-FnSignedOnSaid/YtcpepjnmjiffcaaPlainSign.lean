/- The plain law of signatures: what was signed can be opened, and a signed text is right. -/
import Derived.Test.YtcpepjnmjiffcaaBy
namespace Go.Proofs.Ytcpepjnmjiffcaa
open Go.RowKit
set_option linter.unusedVariables false
theorem inv_spec {a m : Nat} (h : invOk a m) : InvP a m (invF a m) := by
  have hm : 2 ≤ m := by unfold invOk at h; omega
  have : ∃ r, InvP a m r := by
    by_cases hx : ∃ x : Nat, a * x % m = 1
    · obtain ⟨x, hx⟩ := hx
      refine ⟨((x % m : Nat) : Int), .inl ⟨x % m, rfl, Nat.mod_lt _ (by omega), ?_⟩⟩
      rw [Nat.mul_mod, Nat.mod_mod, ← Nat.mul_mod]; exact hx
    · exact ⟨-1, .inr ⟨rfl, fun x e => hx ⟨x, e⟩⟩⟩
  obtain ⟨r, hr⟩ := this
  rw [invF_of h hr]; exact hr
/-- A valid key in plain numbers. -/
theorem key_nat {a b e : Int} (h : keyP a b e) : ∃ p q y x : Nat, a = p ∧ b = q ∧ e = y ∧ invX a b e = x ∧ isP p ∧ isP q ∧ p ≠ q ∧ 3 ≤ y ∧ y ≤ 1000 ∧ x ≤ 1000000 ∧ (y * x) % ((p - 1) * (q - 1)) = 1 := by
  obtain ⟨ha, hb, hpa, hpb, hne, he, hi⟩ := h
  obtain ⟨p, rfl⟩ := Int.eq_ofNat_of_zero_le (show 0 ≤ a by omega)
  obtain ⟨q, rfl⟩ := Int.eq_ofNat_of_zero_le (show 0 ≤ b by omega)
  obtain ⟨y, rfl⟩ := Int.eq_ofNat_of_zero_le (show 0 ≤ e by omega)
  have hr := round_bound ha hb
  have hR : roundF (p : Int) (q : Int) = (((p - 1) * (q - 1) : Nat) : Int) := by
    rw [roundF_eq]
    push_cast [Int.ofNat_sub (show 1 ≤ p by omega), Int.ofNat_sub (show 1 ≤ q by omega)]
    rfl
  rw [hR] at hr
  have hm : (y : Int) % (((p - 1) * (q - 1) : Nat) : Int) = ((y % ((p - 1) * (q - 1)) : Nat) : Int) := by push_cast; rfl
  have hlt : y % ((p - 1) * (q - 1)) < (p - 1) * (q - 1) := Nat.mod_lt _ (by omega)
  have hok : invOk ((y % ((p - 1) * (q - 1)) : Nat) : Int) (((p - 1) * (q - 1) : Nat) : Int) := by unfold invOk; omega
  have hs := inv_spec hok
  unfold invX at hi ⊢
  rw [hR, hm] at hi ⊢
  rcases hs with ⟨x, h1, h2, h3⟩ | ⟨h1, _⟩
  · refine ⟨p, q, y, x, rfl, rfl, rfl, h1, hpa.2, hpb.2, fun e => hne (by rw [e]), by omega, by omega, by omega, ?_⟩
    rw [Nat.mul_mod, Nat.mod_mod, ← Nat.mul_mod] at h3
    have := h3
    rw [Nat.mul_mod] at this ⊢
    simpa using this
  · rw [h1] at hi; omega
theorem powF_nat {a x m : Nat} (h : powOk a x m) : powF a x m = ((a ^ x % m : Nat) : Int) := by rw [powF_yes h]; simp
theorem sign_laws {a b e n : Int} (h : keyV a b e = true) (hs : 0 ≤ signF a b e n) :
    signF a b e n < a * b ∧ openF (a * b) e (signF a b e n) = n ∧ signF a b e (openF (a * b) e n) = n := by
  have hb := mod_bound (keyV_iff.1 h)
  obtain ⟨p, q, y, x, rfl, rfl, rfl, hx, hp, hq, hne, hy, hy', hx', hone⟩ := key_nat (keyV_iff.1 h)
  have hN : (p : Int) * (q : Int) = ((p * q : Nat) : Int) := by push_cast; rfl
  rw [signF_yes h] at hs
  rw [hx, hN] at hs
  have hok : powOk n x ((p * q : Nat) : Int) := Classical.byContradiction fun hno => by rw [powF_no hno] at hs; omega
  have hok0 := hok
  unfold powOk at hok
  obtain ⟨n, rfl⟩ := Int.eq_ofNat_of_zero_le (show 0 ≤ n by omega)
  have hsx : ∀ k : Nat, signF p q y k = powF k x ((p * q : Nat) : Int) := fun k => by rw [signF_yes h, hx, hN]
  have hn : n < p * q := by omega
  have l1 : n ^ x % (p * q) < p * q := Nat.mod_lt _ (by omega)
  have l2 : n ^ y % (p * q) < p * q := Nat.mod_lt _ (by omega)
  have k1 : powOk ((n ^ x % (p * q) : Nat) : Int) y ((p * q : Nat) : Int) := by unfold powOk; omega
  have k2 : powOk (n : Int) y ((p * q : Nat) : Int) := by unfold powOk; omega
  have k3 : powOk ((n ^ y % (p * q) : Nat) : Int) x ((p * q : Nat) : Int) := by unfold powOk; omega
  refine ⟨?_, ?_, ?_⟩
  · rw [hsx, powF_nat hok0, hN]; omega
  · rw [hsx, powF_nat hok0, hN, openF_yes (by omega), powF_nat k1, ← Nat.pow_mod, ← Nat.pow_mul, rsa hp hq hne (by rw [Nat.mul_comm]; exact hone) hn]
  · rw [hN, openF_yes (by omega), powF_nat k2, hsx, powF_nat k3, ← Nat.pow_mod, ← Nat.pow_mul, rsa hp hq hne hone hn]
/-- A number below the modulus is signed. -/
theorem sign_some {a b e n : Int} (h : keyV a b e = true) (hn : 0 ≤ n ∧ n < a * b) : 0 ≤ signF a b e n := by
  have hb := mod_bound (keyV_iff.1 h)
  obtain ⟨p, q, y, x, rfl, rfl, rfl, hx, hp, hq, hne, hy, hy', hx', hone⟩ := key_nat (keyV_iff.1 h)
  have hN : (p : Int) * (q : Int) = ((p * q : Nat) : Int) := by push_cast; rfl
  obtain ⟨n, rfl⟩ := Int.eq_ofNat_of_zero_le hn.1
  rw [signF_yes h, hx, hN, powF_nat (by unfold powOk; omega)]
  exact Int.natCast_nonneg _
theorem sign_neg {a b e n : Int} (h : signF a b e n < 0) : signF a b e n = -1 := by
  cases hv : keyV a b e with
  | false => exact signF_no hv
  | true =>
    rw [signF_yes hv] at h ⊢
    by_cases hok : powOk n (invX a b e) (a * b)
    · rw [powF_yes hok] at h; omega
    · exact powF_no hok
/-- A text that was signed by a valid key is right, and one by that key. -/
theorem signed_right {a b e : Int} {s : ByteArray} (h : keyV a b e = true) (ht : textV s = true) : rightV s (a * b) e (signF a b e (digF s % (a * b))) = true ∧ byV s (a * b) e (signF a b e (digF s % (a * b))) a b e = true := by
  have hb := mod_bound (keyV_iff.1 h)
  have hd := digF_range (textV_iff.1 ht)
  have h0 : 0 ≤ digF s % (a * b) := Int.emod_nonneg _ (by omega)
  have h1 : digF s % (a * b) < a * b := Int.emod_lt_of_pos _ (by omega)
  have hs := sign_some h ⟨h0, h1⟩
  have hr : rightV s (a * b) e (signF a b e (digF s % (a * b))) = true := by
    rw [rightV_yes ht (inB_yes ⟨by omega, by omega⟩), (sign_laws h hs).2.1]
    simp
  exact ⟨hr, by rw [byV_yes hr h (by simp)]; simp⟩
/-- Another text in place of a right signature's. -/
theorem right_other {s t : ByteArray} {m x g : Int} (h : rightV s m x g = true) (ht : textV t = true) : rightV t m x g = (digF t % m == digF s % m) ∧ inB m 100 1000000 = true ∧ textV s = true := by
  have h1 : textV s = true := by cases k : textV s with | true => rfl | false => rw [rightV_no1 k] at h; cases h
  have h2 : inB m 100 1000000 = true := by cases k : inB m 100 1000000 with | true => rfl | false => rw [rightV_no2 k] at h; cases h
  refine ⟨?_, h2, h1⟩
  rw [rightV_yes h1 h2] at h
  rw [rightV_yes ht h2]
  have h : openF m x g = digF s % m := by simpa using h
  rw [h, Bool.eq_iff_iff]
  simp only [beq_iff_eq]
  exact ⟨fun e => e.symm, fun e => e.symm⟩
/-- What SignText makes: a signature, and whether. -/
@[irreducible] noncomputable def sgV (a b e : Int) (s : ByteArray) : (ByteArray × Int × Int × Int) × Bool := if textV s = true ∧ keyV a b e = true then ((s, a * b, e, signF a b e (digF s % (a * b))), true) else ((⟨#[]⟩, 0, 0, 0), false)
theorem sgV_no1 {a b e : Int} {s : ByteArray} (h : textV s = false) : sgV a b e s = ((⟨#[]⟩, 0, 0, 0), false) := by unfold sgV; rw [if_neg (by simp [h])]
theorem sgV_no2 {a b e : Int} {s : ByteArray} (h : keyV a b e = false) : sgV a b e s = ((⟨#[]⟩, 0, 0, 0), false) := by unfold sgV; rw [if_neg (by simp [h])]
theorem sgV_yes {a b e : Int} {s : ByteArray} (h : textV s = true) (h' : keyV a b e = true) : sgV a b e s = ((s, a * b, e, signF a b e (digF s % (a * b))), true) := by unfold sgV; rw [if_pos ⟨h, h'⟩]
end Go.Proofs.Ytcpepjnmjiffcaa
