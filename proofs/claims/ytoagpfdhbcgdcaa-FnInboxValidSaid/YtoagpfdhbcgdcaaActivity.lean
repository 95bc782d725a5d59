/- The contracts of activities: whether one is valid, and the laws' copies of them. -/
import Derived.Test.YtoagpfdhbcgdcaaHandle
namespace Go.Proofs.Ytoagpfdhbcgdcaa
open Go.RowKit
set_option linter.unusedVariables false
set_option linter.unusedSimpArgs false

abbrev acA (k m : Int) (a b s : ByteArray) : Value := .agg #[.int .i64 k, .int .i64 m, .string a, .string b, .string s]
@[irreducible] def acQ (k m : Int) (a b s : ByteArray) (k' m' : Int) (a' b' s' : ByteArray) : Bool := decide ((k, m, a, b, s) = (k', m', a', b', s'))
theorem acQ_yes (k m : Int) (a b s : ByteArray) : acQ k m a b s k m a b s = true := by unfold acQ; simp
theorem acQ_no {k m k' m' : Int} {a b s a' b' s' : ByteArray} (e : ¬ (k, m, a, b, s) = (k', m', a', b', s')) : acQ k m a b s k' m' a' b' s' = false := by unfold acQ; exact decide_eq_false e
theorem acQ_eq (k m : Int) (a b s : ByteArray) (k' m' : Int) (a' b' s' : ByteArray) : acQ k m a b s k' m' a' b' s' = ((k == k') && ((m == m') && (hdQ a b a' b' && (s.toList == s'.toList)))) := by
  rw [bytes_eq]; unfold acQ hdQ; rw [Bool.eq_iff_iff]; simp [and_assoc]
/-- Whether an activity is valid. -/
@[irreducible] def avalV (k m : Int) (a b s : ByteArray) : Bool := inB k 0 5 && (inB m 0 1000000000 && (hvalV a b && wordV s))
section
variable {k m : Int} {a b s : ByteArray}
theorem aval_no1 (h : inB k 0 5 = false) : avalV k m a b s = false := by unfold avalV; rw [h]; rfl
theorem aval_no2 (h : inB m 0 1000000000 = false) : avalV k m a b s = false := by unfold avalV; rw [h]; simp
theorem aval_no3 (h : hvalV a b = false) : avalV k m a b s = false := by unfold avalV; rw [h]; simp
theorem aval_yes (h1 : inB k 0 5 = true) (h2 : inB m 0 1000000000 = true) (h3 : hvalV a b = true) : avalV k m a b s = wordV s := by unfold avalV; rw [h1, h2, h3]; rfl
end
set_option maxHeartbeats 1000000 in
theorem avalS_any (k m : Int) (a b s : ByteArray) (w : World) (ha : a.size ≤ 9223372036854775807) (hb : b.size ≤ 9223372036854775807) (hs : s.size ≤ 9223372036854775807) : Calls Try.prog 40 #[acA k m a b s] w fun e' w' => e' = .returned (.bool (avalV k m a b s)) ∧ Ext.of w w' := by
  have hE : Ext.of w (w.alloc (.cells #[.int .i64 k, .int .i64 m, .string a, .string b, .string s] 62)) := (Ext.of.refl _).alloc _
  have hc : (w.alloc (.cells #[.int .i64 k, .int .i64 m, .string a, .string b, .string s] 62)).heap[w.heap.size]? = some (.cells #[.int .i64 k, .int .i64 m, .string a, .string b, .string s] 62 (0, 0)) := alloc_new' rfl
  have d4 := cell_of_row _ w.heap.size 4 _ _ _ hc
  have C := fun W => hvalS_any a b W ha hb
  have CW := fun W => wordS_any s W hs
  clear ha hb hs hc
  go_enter Try.func40, Try.ntmps40
  cases x1 : inB k 0 5 with
  | false =>
    have R := hid_ (aval_no1 (m := m) (a := a) (b := b) (s := s) x1)
    go_wp2_with (go_at_call 14; refine (l1In_any _ _ _ _).mono ?_; rintro e' w' ⟨rfl, rfl⟩)
    go_ret
    exact ⟨ret_bool R.out.symm, hE⟩
  | true =>
    cases x2 : inB m 0 1000000000 with
    | false =>
      have R := hid_ (aval_no2 (k := k) (a := a) (b := b) (s := s) x2)
      go_wp2_with (go_at_call 14; refine (l1In_any _ _ _ _).mono ?_; rintro e' w' ⟨rfl, rfl⟩)
      go_ret
      exact ⟨ret_bool R.out.symm, hE⟩
    | true =>
      cases x3 : hvalV a b with
      | false =>
        have R := hid_ (aval_no3 (k := k) (m := m) (s := s) x3)
        rw [x3] at C
        clear x3
        go_wp2_with (go_at_call 14; refine (l1In_any _ _ _ _).mono ?_; rintro e' w' ⟨rfl, rfl⟩)
        refine (C _).mono ?_
        rintro e' w1 ⟨rfl, y1⟩
        go_wp2_with fail
        go_ret
        exact ⟨ret_bool R.out.symm, hE.trans y1⟩
      | true =>
        have R := hid_ (aval_yes (s := s) x1 x2 x3)
        rw [x3] at C
        clear x3
        go_wp2_with (go_at_call 14; refine (l1In_any _ _ _ _).mono ?_; rintro e' w' ⟨rfl, rfl⟩)
        refine (C _).mono ?_
        rintro e' w1 ⟨rfl, y1⟩
        have d4 := y1.cell d4
        have hE := hE.trans y1
        clear y1
        go_wp2_with fail
        refine (CW _).mono ?_
        rintro e' w2 ⟨rfl, rfl⟩
        go_wp2_with fail
        go_ret
        exact ⟨ret_bool R.out.symm, hE⟩
def acOk (xs : List (Int × Int × ByteArray × ByteArray × ByteArray)) : Prop := ∀ x ∈ xs, x.2.2.1.size ≤ 9223372036854775807 ∧ x.2.2.2.1.size ≤ 9223372036854775807 ∧ x.2.2.2.2.size ≤ 9223372036854775807
end Go.Proofs.Ytoagpfdhbcgdcaa
