/- What ReadActivity reads, plainly; and the program's kindOf. -/
import Derived.Test.YtoagpfdhbcgdcaaDoorRdHdS
import Derived.Test.YtoagpfdhbcgdcaaDoorLineW
import Derived.Test.YtoagpfdhbcgdcaaDoorG2
namespace Go.Proofs.YtoagpfdhbcgdcaaDoor
open Go.RowKit
set_option linter.unusedVariables false
set_option linter.unusedSimpArgs false
theorem kindW_inj {i j : Nat} (hi : i ≤ 5) (hj : j ≤ 5) (h : kindW i = kindW j) : i = j := by
  have : ∀ a b : Fin 6, kindW (a.val : Int) = kindW (b.val : Int) → a = b := by unfold kindW; decide +kernel
  have := this ⟨i, by omega⟩ ⟨j, by omega⟩ h
  injection this
/-- The kind among the first k that a word names; -1 if there is none. -/
def kdTo (s : ByteArray) : Nat → Int
  | 0 => -1
  | k + 1 => if s = kindW k then (k : Int) else kdTo s k
@[irreducible] def kdV (s : ByteArray) : Int := kdTo s 6
theorem kdTo_none {s : ByteArray} : ∀ {k : Nat}, (∀ j, j < k → s ≠ kindW (j : Nat)) → kdTo s k = -1
  | 0, _ => rfl
  | k + 1, h => by rw [kdTo, if_neg (h k (by omega))]; exact kdTo_none fun j hj => h j (by omega)
theorem kdTo_hit {s : ByteArray} {j : Nat} (e : s = kindW j) (hj : j ≤ 5) : ∀ {k : Nat}, j < k → k ≤ 6 → kdTo s k = j
  | 0, h, _ => by omega
  | k + 1, h, h6 => by
    rw [kdTo]
    by_cases hk : s = kindW k
    · rw [if_pos hk, kindW_inj (by omega) hj (hk.symm.trans e)]
    · rw [if_neg hk]
      exact kdTo_hit e hj (by rcases Nat.lt_succ_iff_lt_or_eq.1 h with h1 | h1; exact h1; subst h1; exact absurd e hk) (by omega)
theorem kd_hit {s : ByteArray} {j : Nat} (e : s = kindW j) (hj : j ≤ 5) : kdV s = j := by unfold kdV; exact kdTo_hit e hj (by omega) (by omega)
theorem kd_none {s : ByteArray} (h : ∀ j, j < 6 → s ≠ kindW (j : Nat)) : kdV s = -1 := by unfold kdV; exact kdTo_none h
theorem kd_all (s : ByteArray) : kdTo s 6 = kdV s := by unfold kdV; rfl
set_option maxRecDepth 8000 in
set_option maxHeartbeats 2000000 in
theorem kdI_any (s : ByteArray) (w : World) (hK : KW w) : Calls Tryd.prog 91 #[.string s] w fun e w' => e = .returned (.int .i64 (kdV s)) ∧ w = w' := by
  have y0 : w.cell? ⟨0, 0, none⟩ = some (.string (kindW 0)) := hK 0 (by omega) (by omega)
  have y1 : w.cell? ⟨0, 1, none⟩ = some (.string (kindW 1)) := hK 1 (by omega) (by omega)
  have y2 : w.cell? ⟨0, 2, none⟩ = some (.string (kindW 2)) := hK 2 (by omega) (by omega)
  have y3 : w.cell? ⟨0, 3, none⟩ = some (.string (kindW 3)) := hK 3 (by omega) (by omega)
  have y4 : w.cell? ⟨0, 4, none⟩ = some (.string (kindW 4)) := hK 4 (by omega) (by omega)
  have y5 : w.cell? ⟨0, 5, none⟩ = some (.string (kindW 5)) := hK 5 (by omega) (by omega)
  clear hK
  have i0 : ∀ w, (Instr.index 94 (.agg #[.string (kindW 0), .string (kindW 1), .string (kindW 2), .string (kindW 3), .string (kindW 4), .string (kindW 5)]) (.int .i64 0)).run Tryd.prog w = .ok (.string (kindW 0)) w := fun _ => by kernel_rfl
  have i1 : ∀ w, (Instr.index 94 (.agg #[.string (kindW 0), .string (kindW 1), .string (kindW 2), .string (kindW 3), .string (kindW 4), .string (kindW 5)]) (.int .i64 1)).run Tryd.prog w = .ok (.string (kindW 1)) w := fun _ => by kernel_rfl
  have i2 : ∀ w, (Instr.index 94 (.agg #[.string (kindW 0), .string (kindW 1), .string (kindW 2), .string (kindW 3), .string (kindW 4), .string (kindW 5)]) (.int .i64 2)).run Tryd.prog w = .ok (.string (kindW 2)) w := fun _ => by kernel_rfl
  have i3 : ∀ w, (Instr.index 94 (.agg #[.string (kindW 0), .string (kindW 1), .string (kindW 2), .string (kindW 3), .string (kindW 4), .string (kindW 5)]) (.int .i64 3)).run Tryd.prog w = .ok (.string (kindW 3)) w := fun _ => by kernel_rfl
  have i4 : ∀ w, (Instr.index 94 (.agg #[.string (kindW 0), .string (kindW 1), .string (kindW 2), .string (kindW 3), .string (kindW 4), .string (kindW 5)]) (.int .i64 4)).run Tryd.prog w = .ok (.string (kindW 4)) w := fun _ => by kernel_rfl
  have i5 : ∀ w, (Instr.index 94 (.agg #[.string (kindW 0), .string (kindW 1), .string (kindW 2), .string (kindW 3), .string (kindW 4), .string (kindW 5)]) (.int .i64 5)).run Tryd.prog w = .ok (.string (kindW 5)) w := fun _ => by kernel_rfl
  go_enter Tryd.func91, Tryd.ntmps91
  go_wp2_with fail
  clear y0 y1 y2 y3 y4 y5
  go_loopw [6] (fun i wr => ∃ k : Nat, k ≤ 6 ∧ i = .int .i64 k ∧ Hid (∀ j, j < k → s ≠ kindW (j : Nat)) ∧ wr = w) (fun i _ => 6 - (intOf i).toNat)
  case atStart => exact ⟨0, by omega, rfl, (fun j hj => by omega), rfl⟩
  case round =>
    obtain ⟨k, hk, rfl, hno, rfl⟩ := hrel
    obtain rfl | hk6 : k = 6 ∨ k < 6 := by omega
    · have R := hid (kd_none hno.out)
      clear hno
      go_wp2_with fail
      go_ret
      exact ⟨ret_i64 R.out.symm, rfl⟩
    · by_cases he : s = kindW k
      · have R := hid (kd_hit he (by omega))
        clear hno
        obtain rfl | rfl | rfl | rfl | rfl | rfl : k = 0 ∨ k = 1 ∨ k = 2 ∨ k = 3 ∨ k = 4 ∨ k = 5 := by omega
        · have t0 : ((kindW 0).toList == s.toList) = true := by rw [str_eq]; exact decide_eq_true (show kindW 0 = s from he.symm)
          clear he
          go_wp2_with fail
          go_ret
          exact ⟨ret_i64 R.out.symm, rfl⟩
        · have t0 : ((kindW 1).toList == s.toList) = true := by rw [str_eq]; exact decide_eq_true (show kindW 1 = s from he.symm)
          clear he
          go_wp2_with fail
          go_ret
          exact ⟨ret_i64 R.out.symm, rfl⟩
        · have t0 : ((kindW 2).toList == s.toList) = true := by rw [str_eq]; exact decide_eq_true (show kindW 2 = s from he.symm)
          clear he
          go_wp2_with fail
          go_ret
          exact ⟨ret_i64 R.out.symm, rfl⟩
        · have t0 : ((kindW 3).toList == s.toList) = true := by rw [str_eq]; exact decide_eq_true (show kindW 3 = s from he.symm)
          clear he
          go_wp2_with fail
          go_ret
          exact ⟨ret_i64 R.out.symm, rfl⟩
        · have t0 : ((kindW 4).toList == s.toList) = true := by rw [str_eq]; exact decide_eq_true (show kindW 4 = s from he.symm)
          clear he
          go_wp2_with fail
          go_ret
          exact ⟨ret_i64 R.out.symm, rfl⟩
        · have t0 : ((kindW 5).toList == s.toList) = true := by rw [str_eq]; exact decide_eq_true (show kindW 5 = s from he.symm)
          clear he
          go_wp2_with fail
          go_ret
          exact ⟨ret_i64 R.out.symm, rfl⟩
      · have N := hid (show ∀ j, j < k + 1 → s ≠ kindW (j : Nat) from fun j hj => by
          rcases Nat.lt_succ_iff_lt_or_eq.1 hj with h1 | h1
          · exact hno.out j h1
          · rw [h1]; exact he)
        clear hno
        obtain rfl | rfl | rfl | rfl | rfl | rfl : k = 0 ∨ k = 1 ∨ k = 2 ∨ k = 3 ∨ k = 4 ∨ k = 5 := by omega
        · have t0 : ((kindW 0).toList == s.toList) = false := by rw [str_eq]; exact decide_eq_false (show ¬ kindW 0 = s from fun e => he e.symm)
          clear he
          go_wp2_with fail
          go_roundw
          case rel => exact ⟨1, by omega, rfl, N, by first | rfl | trivial⟩
          case measure => simp [intOf]
        · have t0 : ((kindW 1).toList == s.toList) = false := by rw [str_eq]; exact decide_eq_false (show ¬ kindW 1 = s from fun e => he e.symm)
          clear he
          go_wp2_with fail
          go_roundw
          case rel => exact ⟨2, by omega, rfl, N, by first | rfl | trivial⟩
          case measure => simp [intOf]
        · have t0 : ((kindW 2).toList == s.toList) = false := by rw [str_eq]; exact decide_eq_false (show ¬ kindW 2 = s from fun e => he e.symm)
          clear he
          go_wp2_with fail
          go_roundw
          case rel => exact ⟨3, by omega, rfl, N, by first | rfl | trivial⟩
          case measure => simp [intOf]
        · have t0 : ((kindW 3).toList == s.toList) = false := by rw [str_eq]; exact decide_eq_false (show ¬ kindW 3 = s from fun e => he e.symm)
          clear he
          go_wp2_with fail
          go_roundw
          case rel => exact ⟨4, by omega, rfl, N, by first | rfl | trivial⟩
          case measure => simp [intOf]
        · have t0 : ((kindW 4).toList == s.toList) = false := by rw [str_eq]; exact decide_eq_false (show ¬ kindW 4 = s from fun e => he e.symm)
          clear he
          go_wp2_with fail
          go_roundw
          case rel => exact ⟨5, by omega, rfl, N, by first | rfl | trivial⟩
          case measure => simp [intOf]
        · have t0 : ((kindW 5).toList == s.toList) = false := by rw [str_eq]; exact decide_eq_false (show ¬ kindW 5 = s from fun e => he e.symm)
          clear he
          go_wp2_with fail
          go_roundw
          case rel => exact ⟨6, by omega, rfl, N, by first | rfl | trivial⟩
          case measure => simp [intOf]
end Go.Proofs.YtoagpfdhbcgdcaaDoor
