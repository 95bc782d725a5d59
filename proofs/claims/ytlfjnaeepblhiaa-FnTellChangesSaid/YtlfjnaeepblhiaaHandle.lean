/- The contracts of handles: whether one is valid, which of two stands first, and the laws' copies of them. -/
import Derived.Test.YtlfjnaeepblhiaaWord
import Derived.Test.YtlfjnaeepblhiaaMore
import Derived.Laws.StructEq
namespace Go.Proofs.Ytlfjnaeepblhiaa
open Go.RowKit
set_option linter.unusedVariables false

abbrev hdA (n h : ByteArray) : Value := .agg #[.string n, .string h]
@[irreducible] def hvalV (n h : ByteArray) : Bool := wordV n && wordV h
theorem hval_no {n h : ByteArray} (e : wordV n = false) : hvalV n h = false := by unfold hvalV; simp [e]
theorem hval_yes {n h : ByteArray} (e : wordV n = true) : hvalV n h = wordV h := by unfold hvalV; simp [e]
theorem hvalI_any (n h : ByteArray) (w : World) (hn : n.size ≤ 9223372036854775807) (hh : h.size ≤ 9223372036854775807) : Calls Try.prog 32 #[hdA n h] w fun e' w' => e' = .returned (.bool (hvalV n h)) ∧ Ext.of w w' := by
  cases e : wordV n with
  | false =>
    have R := hid_ (hval_no (h := h) e)
    go_enter Try.func32, Try.ntmps32
    go_wp2_with (go_at_call 47; refine (wordI_any _ _ (by assumption)).mono ?_; rintro e' w' ⟨rfl, rfl⟩)
    go_ret
    exact ⟨ret_bool R.out.symm, (Ext.of.refl _).alloc _⟩
  | true =>
    have R := hid_ (hval_yes (h := h) e)
    go_enter Try.func32, Try.ntmps32
    go_wp2_with (go_at_call 47; refine (wordI_any _ _ (by assumption)).mono ?_; rintro e' w' ⟨rfl, rfl⟩)
    go_ret
    exact ⟨ret_bool R.out.symm, (Ext.of.refl _).alloc _⟩
theorem hvalS_any (n h : ByteArray) (w : World) (hn : n.size ≤ 9223372036854775807) (hh : h.size ≤ 9223372036854775807) : Calls Try.prog 64 #[hdA n h] w fun e' w' => e' = .returned (.bool (hvalV n h)) ∧ Ext.of w w' := by
  cases e : wordV n with
  | false =>
    have R := hid_ (hval_no (h := h) e)
    go_enter Try.func64, Try.ntmps64
    go_wp2_with (go_at_call 77; refine (wordS_any _ _ (by assumption)).mono ?_; rintro e' w' ⟨rfl, rfl⟩)
    go_ret
    exact ⟨ret_bool R.out.symm, (Ext.of.refl _).alloc _⟩
  | true =>
    have R := hid_ (hval_yes (h := h) e)
    go_enter Try.func64, Try.ntmps64
    go_wp2_with (go_at_call 77; refine (wordS_any _ _ (by assumption)).mono ?_; rintro e' w' ⟨rfl, rfl⟩)
    go_ret
    exact ⟨ret_bool R.out.symm, (Ext.of.refl _).alloc _⟩
/-- Which handle stands first. -/
@[irreducible] def hbefV (n h m k : ByteArray) : Bool := Op.bytesLess h.toList k.toList || ((h.toList == k.toList) && Op.bytesLess n.toList m.toList)
theorem less_irrefl : ∀ l : List UInt8, Op.bytesLess l l = false := by
  intro l; induction l with
  | nil => rfl
  | cons a l ih => simp [Op.bytesLess, ih]
section
variable {n h m k : ByteArray}
theorem hbef_ne (e : (h.toList == k.toList) = false) : hbefV n h m k = Op.bytesLess h.toList k.toList := by unfold hbefV; simp [e]
theorem hbef_eq (e : (h.toList == k.toList) = true) : hbefV n h m k = Op.bytesLess n.toList m.toList := by
  have e2 := e
  rw [beq_iff_eq] at e2
  unfold hbefV; rw [e, e2, less_irrefl]; simp
theorem hbef_lt (e : Op.bytesLess h.toList k.toList = true) : hbefV n h m k = true := by unfold hbefV; simp [e]
end
theorem bytes_eq {a b : ByteArray} : (a.toList == b.toList) = decide (a = b) := by
  rw [Bool.eq_iff_iff, beq_iff_eq, decide_eq_true_iff, ByteArray.toList_eq, ByteArray.toList_eq]
  exact ⟨fun h => ByteArray.ext (Array.toList_inj.mp h), fun h => by rw [h]⟩
@[irreducible] def hdQ (n h m k : ByteArray) : Bool := decide ((n, h) = (m, k))
theorem hdQ_yes (n h : ByteArray) : hdQ n h n h = true := by unfold hdQ; simp
theorem hdQ_no {n h m k : ByteArray} (e : ¬ (n, h) = (m, k)) : hdQ n h m k = false := by unfold hdQ; exact decide_eq_false e
theorem eqHandle_any (n h m k : ByteArray) (w : World) : Calls Try.prog 50 #[hdA n h, hdA m k] w fun e' w' => e' = .returned (.bool (hdQ n h m k)) ∧ Ext.of w w' := by
  have D : hdQ n h m k = ((n.toList == m.toList) && (h.toList == k.toList)) := by
    unfold hdQ
    rw [bytes_eq, bytes_eq, Bool.eq_iff_iff]; simp
  rw [D]
  clear D
  cases e : (n.toList == m.toList) <;> cases f : (h.toList == k.toList)
  all_goals
    have e' := congrArg (!·) e
    have f' := congrArg (!·) f
    simp only [Bool.not_false, Bool.not_true] at e' f'
    go_enter Try.func50, Try.ntmps50
    go_wp2
    go_ret
    exact ⟨rfl, ((Ext.of.refl _).alloc _).alloc _⟩
theorem toHandle_any (n h : ByteArray) (w : World) : Calls Try.prog 37 #[hdA n h] w fun e' w' => e' = .returned (hdA n h) ∧ Ext.of w w' := by
  go_enter Try.func37, Try.ntmps37
  go_wp2
  refine bodyPost_ret (v := hdA n h) (by simp [results, Try.results37, go_sem]) rfl ⟨rfl, (((Ext.of.refl _).alloc _).alloc _).alloc _⟩
theorem szHandle_any (n h : ByteArray) (k : Int) (h0 : 0 ≤ k) (h1 : k ≤ 1048576) (w : World) (hn : n.size ≤ 9223372036854775807) (hh : h.size ≤ 9223372036854775807) : Calls Try.prog 35 #[hdA n h, .int .i64 k] w fun e' w' => ∃ r : Int, e' = .returned (.int .i64 r) ∧ -1 ≤ r ∧ r ≤ k ∧ Ext.of w w' := by
  by_cases a : k - n.size < 0
  · go_enter Try.func35, Try.ntmps35
    go_wp2
    go_ret
    exact ⟨_, rfl, by omega, by omega, (Ext.of.refl _).alloc _⟩
  · have a' : (n.size : Int) ≤ k := by omega
    by_cases b : k - n.size - h.size < 0
    · go_enter Try.func35, Try.ntmps35
      go_wp2
      go_ret
      exact ⟨_, rfl, by omega, by omega, (Ext.of.refl _).alloc _⟩
    · go_enter Try.func35, Try.ntmps35
      go_wp2
      go_ret
      exact ⟨_, rfl, by omega, by omega, (Ext.of.refl _).alloc _⟩
def hdOk (xs : List (ByteArray × ByteArray)) : Prop := ∀ x ∈ xs, x.1.size ≤ 9223372036854775807 ∧ x.2.size ≤ 9223372036854775807
end Go.Proofs.Ytlfjnaeepblhiaa
