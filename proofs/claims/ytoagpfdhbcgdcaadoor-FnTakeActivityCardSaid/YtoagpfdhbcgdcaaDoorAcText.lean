/- The contracts of the texts of handles and of activities. -/
import Derived.Test.YtoagpfdhbcgdcaaDoorMarkV
import Derived.Test.YtoagpfdhbcgdcaaDoorActivity
import Derived.Test.YtoagpfdhbcgdcaaDoorOrder
namespace Go.Proofs.YtoagpfdhbcgdcaaDoor
open Go.RowKit
set_option linter.unusedVariables false
set_option linter.unusedSimpArgs false
theorem word_small {s : ByteArray} (h : wordV s = true) : s.size ≤ 8 := (wordV_iff.1 h).2.1
theorem hval_small {a b : ByteArray} (h : hvalV a b = true) : a.size ≤ 8 ∧ b.size ≤ 8 := by
  unfold hvalV at h
  rw [Bool.and_eq_true] at h
  exact ⟨word_small h.1, word_small h.2⟩
theorem run_sadd {P : Program} {a b : ByteArray} (h : a.size + b.size ≤ 9223372036854775807) (w : World) : (Op.stringOp .add a b).run P w = .ok (.string (a ++ b)) w := by
  simp [Op.stringOp, go_sem]
  omega
@[irreducible] def htextV (a b : ByteArray) : ByteArray := if hvalV a b = true then (⟨#[64]⟩ : ByteArray) ++ a ++ (⟨#[64]⟩ : ByteArray) ++ b else ⟨#[]⟩
theorem htext_yes {a b : ByteArray} (h : hvalV a b = true) : htextV a b = (⟨#[64]⟩ : ByteArray) ++ a ++ (⟨#[64]⟩ : ByteArray) ++ b := by unfold htextV; rw [if_pos h]
theorem htext_no {a b : ByteArray} (h : hvalV a b = false) : htextV a b = ⟨#[]⟩ := by unfold htextV; rw [h]; rfl
theorem htext_size (a b : ByteArray) : (htextV a b).size ≤ 18 := by
  cases h : hvalV a b with
  | false => rw [htext_no h]; exact Nat.zero_le _
  | true =>
    have h1 := hval_small h
    rw [htext_yes h, ByteArray.size_append, ByteArray.size_append, ByteArray.size_append]
    show 1 + _ + 1 + _ ≤ 18
    omega
set_option maxHeartbeats 1000000 in
theorem htextS_any (a b : ByteArray) (w : World) (ha : a.size ≤ 9223372036854775807) (hb : b.size ≤ 9223372036854775807) : Calls Tryd.prog 85 #[hdA a b] w fun e w' => e = .returned (.string (htextV a b)) ∧ Ext.of w w' := by
  have hE : Ext.of w (w.alloc (.cells #[.string a, .string b] 28)) := (Ext.of.refl _).alloc _
  have hc : (w.alloc (.cells #[.string a, .string b] 28)).heap[w.heap.size]? = some (.cells #[.string a, .string b] 28 (0, 0)) := alloc_new' rfl
  have d0 := cell_of_row _ w.heap.size 0 _ _ _ hc
  have d1 := cell_of_row _ w.heap.size 1 _ _ _ hc
  have C := fun W => hvalS_any a b W ha hb
  clear hc
  go_enter Tryd.func85, Tryd.ntmps85
  cases hv : hvalV a b with
  | false =>
    have R := hid (htext_no hv)
    rw [hv] at C
    clear hv
    go_wp2_with fail
    refine (C _).mono ?_
    rintro e w1 ⟨rfl, x1⟩
    go_wp2_with fail
    go_ret
    exact ⟨ret_s R.out.symm, hE.trans x1⟩
  | true =>
    have R := hid (htext_yes hv)
    have hs := hval_small hv
    have s1 : (⟨#[64]⟩ : ByteArray).size = 1 := rfl
    have L1 : (⟨#[64]⟩ : ByteArray).size + a.size ≤ 9223372036854775807 := by omega
    have L2 : ((⟨#[64]⟩ : ByteArray) ++ a).size + (⟨#[64]⟩ : ByteArray).size ≤ 9223372036854775807 := by rw [ByteArray.size_append]; omega
    have L3 : ((⟨#[64]⟩ : ByteArray) ++ a ++ (⟨#[64]⟩ : ByteArray)).size + b.size ≤ 9223372036854775807 := by rw [ByteArray.size_append, ByteArray.size_append]; omega
    have r1 := fun W => run_sadd (P := Tryd.prog) L1 W
    have r2 := fun W => run_sadd (P := Tryd.prog) L2 W
    have r3 := fun W => run_sadd (P := Tryd.prog) L3 W
    rw [hv] at C
    clear hv s1 L1 L2 L3
    go_wp2_with fail
    refine (C _).mono ?_
    rintro e w1 ⟨rfl, x1⟩
    have d0 := x1.cell d0
    have d1 := x1.cell d1
    go_wp2_with fail
    go_ret
    exact ⟨ret_s R.out.symm, hE.trans x1⟩
@[irreducible] def kindW (k : Int) : ByteArray := [⟨#[99, 114, 101, 97, 116, 101]⟩, ⟨#[117, 112, 100, 97, 116, 101]⟩, ⟨#[100, 101, 108, 101, 116, 101]⟩, ⟨#[102, 111, 108, 108, 111, 119]⟩, ⟨#[97, 99, 99, 101, 112, 116]⟩, ⟨#[117, 110, 100, 111]⟩].getD k.toNat ⟨#[]⟩
theorem kindW_at {k : Int} (h0 : 0 ≤ k) (h1 : k ≤ 5) : (#[.string ⟨#[99, 114, 101, 97, 116, 101]⟩, .string ⟨#[117, 112, 100, 97, 116, 101]⟩, .string ⟨#[100, 101, 108, 101, 116, 101]⟩, .string ⟨#[102, 111, 108, 108, 111, 119]⟩, .string ⟨#[97, 99, 99, 101, 112, 116]⟩, .string ⟨#[117, 110, 100, 111]⟩] : Array Value)[k.toNat]? = some (.string (kindW k)) := by
  unfold kindW
  obtain rfl | rfl | rfl | rfl | rfl | rfl : k = 0 ∨ k = 1 ∨ k = 2 ∨ k = 3 ∨ k = 4 ∨ k = 5 := by omega
  all_goals rfl
theorem kindW_size (k : Int) : (kindW k).size ≤ 6 := by
  unfold kindW
  rcases Nat.lt_or_ge k.toNat 6 with h | h
  · generalize k.toNat = j at h
    obtain rfl | rfl | rfl | rfl | rfl | rfl : j = 0 ∨ j = 1 ∨ j = 2 ∨ j = 3 ∨ j = 4 ∨ j = 5 := by omega
    all_goals decide
  · rw [List.getD_eq_getElem?_getD, List.getElem?_eq_none (by simpa using h)]; decide
@[irreducible] def atextV (k m : Int) (a b s : ByteArray) : ByteArray := if avalV k m a b s = true then kindW k ++ (⟨#[32]⟩ : ByteArray) ++ markV m ++ (⟨#[32]⟩ : ByteArray) ++ htextV a b ++ (⟨#[32]⟩ : ByteArray) ++ s else ⟨#[]⟩
theorem atext_yes {k m : Int} {a b s : ByteArray} (h : avalV k m a b s = true) : atextV k m a b s = kindW k ++ (⟨#[32]⟩ : ByteArray) ++ markV m ++ (⟨#[32]⟩ : ByteArray) ++ htextV a b ++ (⟨#[32]⟩ : ByteArray) ++ s := by unfold atextV; rw [if_pos h]
theorem atext_no {k m : Int} {a b s : ByteArray} (h : avalV k m a b s = false) : atextV k m a b s = ⟨#[]⟩ := by unfold atextV; rw [h]; rfl
theorem aval_parts {k m : Int} {a b s : ByteArray} (h : avalV k m a b s = true) : 0 ≤ k ∧ k ≤ 5 ∧ s.size ≤ 8 := by
  unfold avalV at h
  simp only [Bool.and_eq_true] at h
  exact ⟨(inB_iff.1 h.1).1, (inB_iff.1 h.1).2, word_small h.2.2.2⟩
theorem atext_size (k m : Int) (a b s : ByteArray) : (atextV k m a b s).size ≤ 2000000000 := by
  cases h : avalV k m a b s with
  | false => rw [atext_no h]; exact Nat.zero_le _
  | true =>
    have h1 := kindW_size k
    have h2 := markV_size m
    have h3 := htext_size a b
    have h4 := aval_parts h
    rw [atext_yes h]
    simp only [ByteArray.size_append]
    have s1 : (⟨#[32]⟩ : ByteArray).size = 1 := rfl
    omega
end Go.Proofs.YtoagpfdhbcgdcaaDoor
