/- The plain law of deliveries: what is left of valid ones, what twice the first makes of them, and how many are due when. -/
import Derived.Test.YtbnoonaefcogdaaDelVS
namespace Go.Proofs.Ytbnoonaefcogdaa
open Go.RowKit
set_option linter.unusedVariables false
theorem getD_drop1 {α : Type} (xs : List α) (k : Nat) (d : α) : (xs.drop 1).getD k d = xs.getD (k + 1) d := by
  rw [List.getD_eq_getElem?_getD, List.getD_eq_getElem?_getD, List.getElem?_drop, Nat.add_comm 1 k]
theorem dlAt_drop {xs : List Dl} {k : Nat} (h : dlAt xs (k + 1) = true) : dlAt (xs.drop 1) k = true := by
  unfold dlAt at h ⊢
  rw [Bool.and_eq_true] at h ⊢
  constructor
  · have h1 := h.1
    unfold dlSelf at h1 ⊢
    rw [getD_drop1]
    simp only [Nat.add_sub_cancel, Nat.add_one_ne_zero, decide_false, Bool.false_or, Bool.and_eq_true] at h1
    simp only [Bool.and_eq_true, Bool.or_eq_true]
    refine ⟨h1.1, ?_⟩
    cases k with
    | zero => exact .inl (by simp)
    | succ k =>
      refine .inr ?_
      rw [getD_drop1]
      exact h1.2
  · have h2 := h.2
    unfold dlNew at h2 ⊢
    rw [List.all_eq_true] at h2 ⊢
    intro i hi
    have := h2 (i + 1) (by rw [List.mem_range] at hi ⊢; omega)
    unfold dlTwin at this ⊢
    rw [getD_drop1, getD_drop1]
    exact this
theorem dl_tail {xs : List Dl} (h : dlV xs = true) : dlV (xs.drop 1) = true := by
  obtain ⟨h1, h2⟩ := dlV_len h
  refine dlV_yes (by rw [List.length_drop]; omega) ?_
  unfold dlTo
  rw [List.all_eq_true]
  intro k hk
  rw [List.mem_range, List.length_drop] at hk
  exact dlAt_drop (dlTo_at h2 (by omega))
theorem dl_dup {xs : List Dl} {x : Dl} (h : xs[0]? = some x) : dlV (x :: xs) = false := by
  obtain ⟨m, a, t, y⟩ := x
  refine dlV_twin (k := 1) (j := 0) (by have := (List.getElem?_eq_some_iff.1 h).1; simp; omega) (by omega) ?_
  rw [dlTwin_eq (m' := m) (a' := a) (t' := t) (y' := y) (by simp) (m := m) (a := a) (t := t) (y := y) (by simpa using h)]
  simp
/-- How many are due. -/
def dueN (xs : List Dl) (now : Int) : Nat := (xs.filter fun x => decide (x.2.2.2 ≤ now)).length
@[irreducible] def dueF (xs : List Dl) (now : Int) : Int := if dlV xs = true then (dueN xs now : Int) else -1
theorem due_no {xs : List Dl} {now : Int} (h : dlV xs = false) : dueF xs now = -1 := by unfold dueF; rw [h]; rfl
theorem due_yes {xs : List Dl} {now : Int} (h : dlV xs = true) : dueF xs now = (dueN xs now : Int) := by unfold dueF; rw [if_pos h]
theorem dueN_next {xs : List Dl} {k : Nat} {x : Dl} (now : Int) (h : xs[k]? = some x) : dueN (xs.take (k + 1)) now = dueN (xs.take k) now + (if x.2.2.2 ≤ now then 1 else 0) := by
  unfold dueN
  rw [List.take_add_one, h, List.filter_append, List.length_append]
  simp only [Option.toList_some, List.filter_cons, List.filter_nil]
  by_cases e : x.2.2.2 ≤ now <;> simp [e]
theorem dueN_le (xs : List Dl) (now : Int) : dueN xs now ≤ xs.length := List.length_filter_le _ _
theorem due_later {xs : List Dl} {a b : Int} (h : a ≤ b) : dueN xs a ≤ dueN xs b := by
  unfold dueN
  rw [← List.countP_eq_length_filter, ← List.countP_eq_length_filter]
  exact List.countP_mono_left fun x _ hx => by simp at hx ⊢; omega
theorem due_all {xs : List Dl} (h : dlV xs = true) : dueN xs 1000000000 = xs.length := by
  obtain ⟨_, h2⟩ := dlV_len h
  unfold dueN
  rw [List.filter_eq_self.2]
  intro x hx
  obtain ⟨k, hk, rfl⟩ := List.getElem_of_mem hx
  have h3 := dlTo_at h2 hk
  unfold dlAt at h3
  rw [Bool.and_eq_true] at h3
  have h4 := h3.1
  unfold dlSelf at h4
  rw [getD_of (List.getElem?_eq_getElem hk)] at h4
  simp only [Bool.and_eq_true] at h4
  have := inB_iff.1 h4.1.2.2.2
  simpa using this.2
end Go.Proofs.Ytbnoonaefcogdaa
