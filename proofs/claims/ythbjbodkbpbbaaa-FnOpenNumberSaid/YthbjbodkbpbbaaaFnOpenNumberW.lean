/- The walk of FnOpenNumber: it returns true and turns nothing that was there. -/
import Derived.Test.YthbjbodkbpbbaaaDrawOpen
namespace Go.Proofs.Ythbjbodkbpbbaaa.fnOpenNumber
open Go.RowKit
set_option linter.unusedVariables false

theorem mulI_any (a b m : Int) (h : mulOk a b m) (w : World) : Calls Try.prog 18 #[.int .i64 a, .int .i64 b, .int .i64 m] w fun e w' => e = .returned (.int .i64 (mulF a b m)) ∧ w = w' := by
  have h' := h
  obtain ⟨⟨m1, _⟩, ⟨a0, _⟩, b0, _⟩ := h'
  obtain ⟨a, rfl⟩ := Int.eq_ofNat_of_zero_le a0
  obtain ⟨b, rfl⟩ := Int.eq_ofNat_of_zero_le b0
  obtain ⟨m, rfl⟩ := Int.eq_ofNat_of_zero_le (show 0 ≤ m by omega)
  exact mulI_yes a b m h w
theorem open_range (m x a : Int) : openF m x a = -1 ∨ (0 ≤ openF m x a ∧ openF m x a < m ∧ (3 ≤ x ∧ x ≤ 1000) ∧ powOk a x m) := by
  by_cases h : 3 ≤ x ∧ x ≤ 1000
  · rw [openF_yes h]
    by_cases b : powOk a x m
    · rw [powF_yes b]
      obtain ⟨hm, ha, hx⟩ := b
      have : a.toNat ^ x.toNat % m.toNat < m.toNat := Nat.mod_lt _ (by omega)
      exact .inr ⟨by omega, by omega, h, hm, ha, hx⟩
    · exact .inl (powF_no b)
  · exact .inl (openF_no h)
/-- Opening a square is the square of what is opened. -/
theorem open_square {m x a : Int} (hx : 3 ≤ x ∧ x ≤ 1000) (b : powOk a x m) : openF m x (mulF a a m) = mulF (openF m x a) (openF m x a) m := by
  obtain ⟨hm, ha, hx'⟩ := b
  have e1 := mulF_yes (a := a) (b := a) (m := m) ⟨hm, ha, ha⟩
  have l1 : a.toNat * a.toNat % m.toNat < m.toNat := Nat.mod_lt _ (by omega)
  have e2 : openF m x a = ((a.toNat ^ x.toNat % m.toNat : Nat) : Int) := by rw [openF_yes hx, powF_yes ⟨hm, ha, hx'⟩]
  have l2 : a.toNat ^ x.toNat % m.toNat < m.toNat := Nat.mod_lt _ (by omega)
  rw [e1, e2, openF_yes hx, powF_yes ⟨hm, ⟨by omega, by omega⟩, hx'⟩, mulF_yes ⟨hm, ⟨by omega, by omega⟩, ⟨by omega, by omega⟩⟩]
  simp only [Int.toNat_natCast]
  congr 1
  rw [← Nat.pow_mod, Nat.mul_pow, ← Nat.mul_mod]
theorem walk (a0 : Option Addr) (len0 cap0 : Nat) (z0 : List Int) (w : World) (w0 : Row .u8 w a0 len0 cap0 z0) :
    Calls Try.prog 3 #[.slice a0 len0 cap0] w fun e w' => e = .returned (.bool true) ∧ Below w.heap.size w w' := by
  have hmax := w0.sl.max
  have hcap := w0.sl.cap
  unfold maxLen at hmax
  by_cases hn : 1048576 < len0
  · go_enter Try.func3, Try.ntmps3
    go_wp2
    go_ret
    exact ⟨rfl, Below.refl _ _⟩
  · go_enter Try.func3, Try.ntmps3
    go_wp2_with fail
    refine (drawOpen_any _ _ _ _ _ w0).mono ?_
    rintro e w1 ⟨m, x, a, rfl, m0, m1, a0', a1, T1⟩
    clear w0 hmax hcap
    rcases open_range m x a with h | ⟨h0, h1, hx, hb⟩
    · have hlt : openF m x a < 0 := by omega
      have he : (openF m x a == -1) = true := by simpa using h
      clear h
      go_wp2_with (first
        | (go_at_call 15; refine (openI_any _ _ _ _).mono ?_; rintro e w' ⟨rfl, rfl⟩)
        | (go_at_call 16; refine (openS_any _ _ _ _).mono ?_; rintro e w' ⟨rfl, rfl⟩)
        | (go_at_call 17; refine (alive_any _).mono ?_; rintro e w' ⟨rfl, rfl⟩))
      go_ret
      exact ⟨rfl, T1⟩
    · have hq : (openF m x (mulF a a m) == mulF (openF m x a) (openF m x a) m) = true := by simpa using open_square hx hb
      have k1 : mulOk a a m := ⟨hb.1, hb.2.1, hb.2.1⟩
      have k2 : mulOk (openF m x a) (openF m x a) m := ⟨hb.1, ⟨h0, by omega⟩, ⟨h0, by omega⟩⟩
      clear hb hx
      go_wp2_with (first
        | (go_at_call 15; refine (openI_any _ _ _ _).mono ?_; rintro e w' ⟨rfl, rfl⟩)
        | (go_at_call 16; refine (openS_any _ _ _ _).mono ?_; rintro e w' ⟨rfl, rfl⟩)
        | (go_at_call 18; first
            | ((with_reducible refine (mulI_any a a m k1 _).mono ?_); rintro e w' ⟨rfl, rfl⟩)
            | ((with_reducible refine (mulI_any (openF m x a) (openF m x a) m k2 _).mono ?_); rintro e w' ⟨rfl, rfl⟩)))
      go_ret
      exact ⟨rfl, T1⟩
end Go.Proofs.Ythbjbodkbpbbaaa.fnOpenNumber
