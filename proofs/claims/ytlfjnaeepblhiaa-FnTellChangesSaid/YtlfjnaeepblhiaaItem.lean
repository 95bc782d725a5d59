/- The contracts of items: the laws' copies of them, and whether two are equal. -/
import Derived.Test.YtlfjnaeepblhiaaHandle
namespace Go.Proofs.Ytlfjnaeepblhiaa
open Go.RowKit
set_option linter.unusedVariables false
set_option linter.unusedSimpArgs false

abbrev imA (a b s : ByteArray) (d : Int) : Value := .agg #[.string a, .string b, .string s, .int .i64 d]
@[irreducible] def imQ (a b s : ByteArray) (d : Int) (a' b' s' : ByteArray) (d' : Int) : Bool := decide ((a, b, s, d) = (a', b', s', d'))
theorem imQ_yes (a b s : ByteArray) (d : Int) : imQ a b s d a b s d = true := by unfold imQ; simp
theorem imQ_no {a b s a' b' s' : ByteArray} {d d' : Int} (e : ¬ (a, b, s, d) = (a', b', s', d')) : imQ a b s d a' b' s' d' = false := by unfold imQ; exact decide_eq_false e
theorem imQ_eq (a b s : ByteArray) (d : Int) (a' b' s' : ByteArray) (d' : Int) : imQ a b s d a' b' s' d' = ((a.toList == a'.toList) && ((b.toList == b'.toList) && ((s.toList == s'.toList) && (d == d')))) := by
  rw [bytes_eq, bytes_eq, bytes_eq]; unfold imQ; rw [Bool.eq_iff_iff]; simp
set_option maxHeartbeats 1000000 in
theorem eqItem_any (a b s : ByteArray) (d : Int) (a' b' s' : ByteArray) (d' : Int) (w : World) : Calls Try.prog 74 #[imA a b s d, imA a' b' s' d'] w fun e1 w' => e1 = .returned (.bool (imQ a b s d a' b' s' d')) ∧ Ext.of w w' := by
  rw [imQ_eq]
  cases x1 : (a.toList == a'.toList) <;> cases x2 : (b.toList == b'.toList) <;> cases x3 : (s.toList == s'.toList) <;> cases x4 : (d == d')
  all_goals
    have z1 := congrArg (!·) x1
    have z2 := congrArg (!·) x2
    have z3 := congrArg (!·) x3
    simp only [Bool.not_false, Bool.not_true] at z1 z2 z3
    go_enter Try.func74, Try.ntmps74
    go_wp2
    go_ret
    exact ⟨rfl, ((Ext.of.refl _).alloc _).alloc _⟩
theorem toItem_any (a b s : ByteArray) (d : Int) (w : World) : Calls Try.prog 73 #[imA a b s d] w fun e' w' => e' = .returned (imA a b s d) ∧ Ext.of w w' := by
  go_enter Try.func73, Try.ntmps73
  go_wp2
  refine bodyPost_ret (v := imA a b s d) (by simp [results, Try.results73, go_sem]) rfl ⟨rfl, (((Ext.of.refl _).alloc _).alloc _).alloc _⟩
theorem szItem_any (a b s : ByteArray) (d : Int) (k : Int) (h0 : 0 ≤ k) (h1 : k ≤ 1048576) (w : World) (ha : a.size ≤ 9223372036854775807) (hb : b.size ≤ 9223372036854775807) (hs : s.size ≤ 9223372036854775807) : Calls Try.prog 72 #[imA a b s d, .int .i64 k] w fun e' w' => ∃ r : Int, e' = .returned (.int .i64 r) ∧ -1 ≤ r ∧ r ≤ k ∧ Ext.of w w' := by
  by_cases x1 : k - a.size < 0
  · go_enter Try.func72, Try.ntmps72
    go_wp2
    go_ret
    exact ⟨_, rfl, by omega, by omega, (Ext.of.refl _).alloc _⟩
  · by_cases x2 : k - a.size - b.size < 0
    · go_enter Try.func72, Try.ntmps72
      go_wp2
      go_ret
      exact ⟨_, rfl, by omega, by omega, (Ext.of.refl _).alloc _⟩
    · by_cases x3 : k - a.size - b.size - s.size < 0
      · go_enter Try.func72, Try.ntmps72
        go_wp2
        go_ret
        exact ⟨_, rfl, by omega, by omega, (Ext.of.refl _).alloc _⟩
      · go_enter Try.func72, Try.ntmps72
        go_wp2
        go_ret
        exact ⟨_, rfl, by omega, by omega, (Ext.of.refl _).alloc _⟩
set_option maxHeartbeats 1000000 in
theorem neqItem (a b s : ByteArray) (d : Int) (a' b' s' : ByteArray) (d' : Int) (W : World) : (binOp .neq 57 (imA a b s d) (imA a' b' s' d')).run Try.prog W = .ok (.bool (!imQ a b s d a' b' s' d')) W := by
  rw [imQ_eq, run_neq_struct, run_equalIn_agg _ _ _ _ _ (by kernel_rfl) (by kernel_rfl)]
  by_cases x0 : d = d' <;> cases x2 : (a.toList == a'.toList) <;> cases x3 : (b.toList == b'.toList) <;> cases x4 : (s.toList == s'.toList) <;> simp [go_sem, Op.eqFields, x0, x2, x3, x4]
def imOk (xs : List (ByteArray × ByteArray × ByteArray × Int)) : Prop := ∀ x ∈ xs, x.1.size ≤ 9223372036854775807 ∧ x.2.1.size ≤ 9223372036854775807 ∧ x.2.2.1.size ≤ 9223372036854775807
end Go.Proofs.Ytlfjnaeepblhiaa
