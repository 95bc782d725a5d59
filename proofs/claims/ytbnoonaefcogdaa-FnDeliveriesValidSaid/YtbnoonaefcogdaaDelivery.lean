/- The contracts of deliveries: the laws' copies of them. -/
import Derived.Test.YtbnoonaefcogdaaWord
import Derived.Test.YtbnoonaefcogdaaMore
import Derived.Laws.StructEq
namespace Go.Proofs.Ytbnoonaefcogdaa
open Go.RowKit
set_option linter.unusedVariables false

abbrev dlA (m : Int) (a : ByteArray) (t y : Int) : Value := .agg #[.int .i64 m, .string a, .int .i64 t, .int .i64 y]
theorem bytes_eq {a b : ByteArray} : (a.toList == b.toList) = decide (a = b) := by
  rw [Bool.eq_iff_iff, beq_iff_eq, decide_eq_true_iff, ByteArray.toList_eq, ByteArray.toList_eq]
  exact ⟨fun h => ByteArray.ext (Array.toList_inj.mp h), fun h => by rw [h]⟩
@[irreducible] def dlQ (m : Int) (a : ByteArray) (t y m' : Int) (a' : ByteArray) (t' y' : Int) : Bool := decide ((m, a, t, y) = (m', a', t', y'))
theorem dlQ_yes (m : Int) (a : ByteArray) (t y : Int) : dlQ m a t y m a t y = true := by unfold dlQ; simp
theorem dlQ_no {m t y m' t' y' : Int} {a a' : ByteArray} (e : ¬ (m, a, t, y) = (m', a', t', y')) : dlQ m a t y m' a' t' y' = false := by unfold dlQ; exact decide_eq_false e
theorem dlQ_eq (m : Int) (a : ByteArray) (t y m' : Int) (a' : ByteArray) (t' y' : Int) : dlQ m a t y m' a' t' y' = ((m == m') && ((a.toList == a'.toList) && ((t == t') && (y == y')))) := by
  rw [bytes_eq]; unfold dlQ; rw [Bool.eq_iff_iff]; simp
theorem eqDelivery_any (m : Int) (a : ByteArray) (t y m' : Int) (a' : ByteArray) (t' y' : Int) (w : World) : Calls Try.prog 24 #[dlA m a t y, dlA m' a' t' y'] w fun e1 w' => e1 = .returned (.bool (dlQ m a t y m' a' t' y')) ∧ Ext.of w w' := by
  rw [dlQ_eq]
  cases x1 : (m == m') <;> cases x2 : (a.toList == a'.toList) <;> cases x3 : (t == t') <;> cases x4 : (y == y')
  all_goals
    have z2 := congrArg (!·) x2
    simp only [Bool.not_false, Bool.not_true] at z2
    go_enter Try.func24, Try.ntmps24
    go_wp2
    go_ret
    exact ⟨rfl, ((Ext.of.refl _).alloc _).alloc _⟩
theorem toDelivery_any (m : Int) (a : ByteArray) (t y : Int) (w : World) : Calls Try.prog 23 #[dlA m a t y] w fun e' w' => e' = .returned (dlA m a t y) ∧ Ext.of w w' := by
  go_enter Try.func23, Try.ntmps23
  go_wp2
  refine bodyPost_ret (v := dlA m a t y) (by simp [results, Try.results23, go_sem]) rfl ⟨rfl, (((Ext.of.refl _).alloc _).alloc _).alloc _⟩
theorem szDelivery_any (m : Int) (a : ByteArray) (t y : Int) (k : Int) (h0 : 0 ≤ k) (h1 : k ≤ 1048576) (w : World) (hn : a.size ≤ 9223372036854775807) : Calls Try.prog 22 #[dlA m a t y, .int .i64 k] w fun e' w' => ∃ r : Int, e' = .returned (.int .i64 r) ∧ -1 ≤ r ∧ r ≤ k ∧ Ext.of w w' := by
  by_cases a : k - a.size < 0
  · go_enter Try.func22, Try.ntmps22
    go_wp2
    go_ret
    exact ⟨_, rfl, by omega, by omega, (Ext.of.refl _).alloc _⟩
  · go_enter Try.func22, Try.ntmps22
    go_wp2
    go_ret
    exact ⟨_, rfl, by omega, by omega, (Ext.of.refl _).alloc _⟩
def dlOk (xs : List (Int × ByteArray × Int × Int)) : Prop := ∀ x ∈ xs, x.2.1.size ≤ 9223372036854775807
end Go.Proofs.Ytbnoonaefcogdaa
