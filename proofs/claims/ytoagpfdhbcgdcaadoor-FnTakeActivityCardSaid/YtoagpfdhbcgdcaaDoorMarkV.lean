/- The contracts of MarkText, the program's and the reference's. -/
import Derived.Test.YtoagpfdhbcgdcaaDoorBase
import Derived.Test.YtoagpfdhbcgdcaaDoorWord
import Derived.Test.YtoagpfdhbcgdcaaDoorFlat
namespace Go.Proofs.YtoagpfdhbcgdcaaDoor
open Go.RowKit
set_option linter.unusedVariables false
set_option linter.unusedSimpArgs false
/-- The digit of a number below 36. -/
@[irreducible] def dig36 (d : Nat) : ByteArray := (ByteArray.mk #[48, 49, 50, 51, 52, 53, 54, 55, 56, 57, 97, 98, 99, 100, 101, 102, 103, 104, 105, 106, 107, 108, 109, 110, 111, 112, 113, 114, 115, 116, 117, 118, 119, 120, 121, 122]).extract d (d + 1)
theorem dig36_eq (d : Nat) : (ByteArray.mk #[48, 49, 50, 51, 52, 53, 54, 55, 56, 57, 97, 98, 99, 100, 101, 102, 103, 104, 105, 106, 107, 108, 109, 110, 111, 112, 113, 114, 115, 116, 117, 118, 119, 120, 121, 122]).extract d (d + 1) = dig36 d := by unfold dig36; rfl
theorem dig36_one {d : Nat} (h : d < 36) : (dig36 d).size = 1 := by
  rw [← dig36_eq]
  simp only [ByteArray.size_extract]
  show min _ 36 - _ = 1
  omega
theorem dig36_size (d : Nat) : (dig36 d).size ≤ 36 := by
  rw [← dig36_eq]
  simp only [ByteArray.size_extract]
  show min _ 36 - _ ≤ 36
  omega
/-- The digits ahead of those that are written. -/
def mkT (n : Nat) (t : ByteArray) : ByteArray := if h : n < 36 then t else mkT (n / 36) (dig36 (n / 36 % 36) ++ t)
termination_by n
decreasing_by omega
theorem mkT_end {n : Nat} (h : n < 36) (t : ByteArray) : mkT n t = t := by rw [mkT, dif_pos h]
theorem mkT_more {n : Nat} (h : ¬ n < 36) (t : ByteArray) : mkT n t = mkT (n / 36) (dig36 (n / 36 % 36) ++ t) := by rw [mkT, dif_neg h]
/-- The text of a number. -/
@[irreducible] def markV (n : Int) : ByteArray := if 0 ≤ n ∧ n ≤ 1000000000 then mkT n.toNat (dig36 (n.toNat % 36)) else ⟨#[]⟩
theorem markV_yes {n : Int} (h : 0 ≤ n ∧ n ≤ 1000000000) : markV n = mkT n.toNat (dig36 (n.toNat % 36)) := by unfold markV; rw [if_pos h]
theorem markV_no {n : Int} (h : ¬ (0 ≤ n ∧ n ≤ 1000000000)) : markV n = ⟨#[]⟩ := by unfold markV; rw [if_neg h]
theorem ret_s {a b : ByteArray} (h : a = b) : Ending.returned (.string a) = .returned (.string b) := by rw [h]
set_option maxHeartbeats 1000000 in
theorem markS_any (n : Int) (w : World) : Calls Tryd.prog 84 #[.int .i64 n] w fun e w' => e = .returned (.string (markV n)) ∧ w = w' := by
  by_cases hn : 0 ≤ n ∧ n ≤ 1000000000
  · have hV := hid (markV_yes hn)
    obtain ⟨k, rfl⟩ := Int.eq_ofNat_of_zero_le hn.1
    have x1 : inB (k : Int) 0 1000000000 = true := inB_yes hn
    have hk : k ≤ 1000000000 := by omega
    have e1 := Int.tmod_eq_emod_of_nonneg (a := (k : Int)) (b := 36) (by omega)
    have h0 : 0 ≤ (k : Int) % 36 := by omega
    have h1 : (k : Int) % 36 < 36 := by omega
    go_enter Tryd.func84, Tryd.ntmps84
    go_wp2_with (go_at_call 78; refine (l1In_any _ _ _ _).mono ?_; rintro e' w' ⟨rfl, rfl⟩)
    clear e1 h0 h1
    go_loopw [0, 4] (fun v s wr => ∃ (j : Nat) (t : ByteArray), v = .int .i64 j ∧ t.size + j ≤ k + 1 ∧ s = .string t ∧ Hid (mkT j t = markV k) ∧ wr = w) (fun v _ _ => (intOf v).toNat)
    case atStart => exact ⟨k, _, rfl, by rw [dig36_eq, dig36_one (by omega)]; omega, rfl, by show _ = _; rw [hV.out, dig36_eq]; rfl, rfl⟩
    case round =>
      obtain ⟨j, t, rfl, hj, rfl, ht, rfl⟩ := hrel
      by_cases hl : j < 36
      · have R := hid ((mkT_end hl t).symm.trans ht.out)
        clear ht hV
        go_wp2
        go_ret
        exact ⟨ret_s R.out, rfl⟩
      · have R := hid ((mkT_more hl t).symm.trans ht.out)
        have e2 := Int.tdiv_eq_ediv_of_nonneg (a := (j : Int)) (b := 36) (by omega)
        have hd : ((j : Int) / 36) = ((j / 36 : Nat) : Int) := by omega
        have e1 := Int.tmod_eq_emod_of_nonneg (a := ((j / 36 : Nat) : Int)) (b := 36) (by omega)
        have e3 : ((j / 36 : Nat) : Int) % 36 = ((j / 36 % 36 : Nat) : Int) := by omega
        have hb : j / 36 ≤ 1000000000 := by omega
        have hb2 : j / 36 % 36 < 36 := by omega
        have hlt : 1 + j / 36 ≤ j := by omega
        clear ht hV
        rw [hd] at e2
        rw [e3] at e1
        clear hd e3
        have hsz := dig36_one hb2
        generalize j / 36 = q at *
        have hs2 : (dig36 (q % 36) ++ t).size = 1 + t.size := by rw [ByteArray.size_append, hsz]
        have H := hid (And.intro hs2 hsz)
        have hmin : min (q % 36 + 1) 36 - q % 36 = 1 := by omega
        clear hs2 hsz
        go_wp2
        go_roundw
        case rel => exact ⟨q, _, rfl, by rw [dig36_eq, H.out.1]; omega, rfl, by rw [dig36_eq]; exact R, trivial⟩
        case measure => simp [intOf]; omega
  · have hV := hid (markV_no hn)
    have x1 : inB n 0 1000000000 = false := inB_no hn
    go_enter Tryd.func84, Tryd.ntmps84
    go_wp2_with (go_at_call 78; refine (l1In_any _ _ _ _).mono ?_; rintro e' w' ⟨rfl, rfl⟩)
    go_ret
    exact ⟨ret_s hV.out.symm, rfl⟩
theorem mkT_size : ∀ (n : Nat) (t : ByteArray), (mkT n t).size ≤ t.size + n := by
  intro n
  induction n using Nat.strongRecOn with
  | _ n ih =>
    intro t
    by_cases h : n < 36
    · rw [mkT_end h]; omega
    · rw [mkT_more h]
      have h1 := ih (n / 36) (by omega) (dig36 (n / 36 % 36) ++ t)
      rw [ByteArray.size_append, dig36_one (by omega)] at h1
      omega
theorem markV_size (n : Int) : (markV n).size ≤ 1000000001 := by
  by_cases h : 0 ≤ n ∧ n ≤ 1000000000
  · rw [markV_yes h]
    have h1 := mkT_size n.toNat (dig36 (n.toNat % 36))
    rw [dig36_one (by omega)] at h1
    omega
  · rw [markV_no h]; exact Nat.zero_le _
end Go.Proofs.YtoagpfdhbcgdcaaDoor
