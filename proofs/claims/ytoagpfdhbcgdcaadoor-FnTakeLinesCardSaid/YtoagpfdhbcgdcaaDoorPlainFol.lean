/- The plain law of followers: the order of handles, and what inserting and removing one does. -/
import Derived.Test.YtoagpfdhbcgdcaaDoorFollow
namespace Go.Proofs.YtoagpfdhbcgdcaaDoor
open Go.RowKit
set_option linter.unusedVariables false

theorem less_trans : ∀ {a b c : List UInt8}, Op.bytesLess a b = true → Op.bytesLess b c = true → Op.bytesLess a c = true
  | a, [], c, h, _ => by simp [Op.bytesLess] at h
  | [], y :: b, [], _, h => by simp [Op.bytesLess] at h
  | [], y :: b, z :: c, _, _ => by simp [Op.bytesLess]
  | x :: a, y :: b, [], _, h => by simp [Op.bytesLess] at h
  | x :: a, y :: b, z :: c, h1, h2 => by
      simp only [Op.bytesLess, Bool.or_eq_true, decide_eq_true_eq, Bool.and_eq_true, beq_iff_eq] at *
      rcases h1 with h1 | ⟨rfl, h1⟩
      · rcases h2 with h2 | ⟨rfl, h2⟩
        · exact .inl (UInt8.lt_trans h1 h2)
        · exact .inl h1
      · rcases h2 with h2 | ⟨rfl, h2⟩
        · exact .inl h2
        · exact .inr ⟨rfl, less_trans h1 h2⟩
theorem less_total : ∀ (a b : List UInt8), Op.bytesLess a b = true ∨ a = b ∨ Op.bytesLess b a = true
  | [], [] => by simp
  | [], y :: b => by simp [Op.bytesLess]
  | x :: a, [] => by simp [Op.bytesLess]
  | x :: a, y :: b => by
      simp only [Op.bytesLess, Bool.or_eq_true, decide_eq_true_eq, Bool.and_eq_true, beq_iff_eq, List.cons.injEq]
      rcases Nat.lt_trichotomy x.toNat y.toNat with h | h | h
      · exact .inl (.inl (UInt8.lt_iff_toNat_lt.2 h))
      · have e : x = y := UInt8.toNat_inj.1 h
        subst e
        rcases less_total a b with h | h | h
        · exact .inl (.inr ⟨rfl, h⟩)
        · exact .inr (.inl ⟨rfl, h⟩)
        · exact .inr (.inr (.inr ⟨rfl, h⟩))
      · exact .inr (.inr (.inl (UInt8.lt_iff_toNat_lt.2 h)))
theorem toList_inj {a b : ByteArray} (h : a.toList = b.toList) : a = b := by
  rw [ByteArray.toList_eq, ByteArray.toList_eq] at h
  exact ByteArray.ext (Array.toList_inj.mp h)
/-- One handle stands before another. -/
def bef (x y : Hd) : Bool := hbefV x.1 x.2 y.1 y.2
theorem bef_iff {x y : Hd} : bef x y = true ↔ Op.bytesLess x.2.toList y.2.toList = true ∨ (x.2.toList = y.2.toList ∧ Op.bytesLess x.1.toList y.1.toList = true) := by
  unfold bef hbefV; simp
theorem bef_irrefl (x : Hd) : bef x x = false := by
  rw [Bool.eq_false_iff]
  intro h
  rw [bef_iff] at h
  rcases h with h | ⟨_, h⟩ <;> rw [less_irrefl] at h <;> cases h
theorem bef_trans {x y z : Hd} (h : bef x y = true) (h' : bef y z = true) : bef x z = true := by
  rw [bef_iff] at *
  rcases h with h | ⟨e, h⟩
  · rcases h' with h' | ⟨e', h'⟩
    · exact .inl (less_trans h h')
    · exact .inl (e' ▸ h)
  · rcases h' with h' | ⟨e', h'⟩
    · exact .inl (e ▸ h')
    · exact .inr ⟨e.trans e', less_trans h h'⟩
theorem bef_asymm {x y : Hd} (h : bef x y = true) : bef y x = false := by
  rw [Bool.eq_false_iff]
  intro h'
  have := bef_trans h h'
  rw [bef_irrefl] at this; cases this
theorem bef_total (x y : Hd) : bef x y = true ∨ x = y ∨ bef y x = true := by
  simp only [bef_iff]
  rcases less_total x.2.toList y.2.toList with h | h | h
  · exact .inl (.inl h)
  · rcases less_total x.1.toList y.1.toList with h' | h' | h'
    · exact .inl (.inr ⟨h, h'⟩)
    · exact .inr (.inl (Prod.ext (toList_inj h') (toList_inj h)))
    · exact .inr (.inr (.inr ⟨h.symm, h'⟩))
  · exact .inr (.inr (.inl h))
theorem bef_ne {x y : Hd} (h : bef x y = true) : x ≠ y := by rintro rfl; rw [bef_irrefl] at h; cases h
abbrev val (x : Hd) : Bool := hvalV x.1 x.2
theorem folTo_iff {xs : List Hd} {n : Nat} : folTo xs n = true ↔ ∀ k, k < n → folAt xs k = true := by
  unfold folTo; rw [List.all_eq_true]
  exact ⟨fun h k hk => h k (List.mem_range.2 hk), fun h k hk => h k (List.mem_range.1 hk)⟩
theorem folAt_iff {xs : List Hd} {k : Nat} (hk : k < xs.length) : folAt xs k = true ↔ val xs[k] = true ∧ (0 < k → bef (xs[k - 1]'(by omega)) xs[k] = true) := by
  unfold folAt
  have e1 : xs.getD k default = xs[k] := by simp [hk]
  have e2 : xs.getD (k - 1) default = xs[k - 1]'(by omega) := by simp [show k - 1 < xs.length by omega]
  rw [e1, e2]
  simp only [Bool.and_eq_true, Bool.or_eq_true, decide_eq_true_eq]
  refine and_congr Iff.rfl ⟨fun h h0 => ?_, fun h => ?_⟩
  · rcases h with h | h
    · omega
    · exact h
  · rcases Nat.eq_zero_or_pos k with h0 | h0
    · exact .inl h0
    · exact .inr (h h0)
theorem folV_iff {xs : List Hd} : folV xs = true ↔ xs.length ≤ 10 ∧ (∀ x ∈ xs, val x = true) ∧ xs.Pairwise (fun x y => bef x y = true) := by
  have h0 : folV xs = true ↔ xs.length ≤ 10 ∧ folTo xs xs.length = true := by unfold folV; simp
  rw [h0, folTo_iff]
  refine and_congr Iff.rfl ⟨fun h => ⟨fun x hx => ?_, ?_⟩, fun ⟨h1, h2⟩ k hk => ?_⟩
  · obtain ⟨k, hk, rfl⟩ := List.getElem_of_mem hx
    exact ((folAt_iff hk).1 (h k hk)).1
  · rw [List.pairwise_iff_getElem]
    intro i j hi hj hij
    induction j with
    | zero => omega
    | succ j ih =>
      have hb := ((folAt_iff hj).1 (h _ hj)).2 (by omega)
      by_cases e : i = j
      · subst e; exact hb
      · exact bef_trans (ih (by omega) (by omega)) hb
  · exact (folAt_iff hk).2 ⟨h1 _ (by simp), fun h0 => List.pairwise_iff_getElem.1 h2 _ _ (by omega) hk (by omega)⟩
/-! ### Inserting and removing -/
/-- A list with one more in its place. -/
def insL (xs : List Hd) (x : Hd) : List Hd := xs.takeWhile (fun y => bef y x) ++ x :: xs.dropWhile (fun y => bef y x)
@[irreducible] def followV (xs : List Hd) (x : Hd) : List Hd × Bool := if folV xs = true then (if folV (insL xs x) = true then (insL xs x, true) else (xs, false)) else ([], false)
def remL (xs : List Hd) (x : Hd) : List Hd := xs.filter fun y => !decide (y = x)
def hasL (xs : List Hd) (x : Hd) : Bool := xs.any fun y => decide (y = x)
theorem hasL_iff {xs : List Hd} {x : Hd} : hasL xs x = true ↔ x ∈ xs := by unfold hasL; simp
@[irreducible] def unfollowV (xs : List Hd) (x : Hd) : List Hd × Bool := if folV xs = true then (remL xs x, hasL xs x) else ([], false)
section
variable {xs : List Hd} {x : Hd}
theorem follow_no (h : folV xs = false) : followV xs x = ([], false) := by unfold followV; rw [h]; rfl
theorem follow_not (h : folV xs = true) (h' : folV (insL xs x) = false) : followV xs x = (xs, false) := by unfold followV; rw [h, h']; rfl
theorem follow_yes (h : folV xs = true) (h' : folV (insL xs x) = true) : followV xs x = (insL xs x, true) := by unfold followV; rw [h, h']; rfl
theorem unfollow_no (h : folV xs = false) : unfollowV xs x = ([], false) := by unfold unfollowV; rw [h]; rfl
theorem unfollow_yes (h : folV xs = true) : unfollowV xs x = (remL xs x, hasL xs x) := by unfold unfollowV; rw [if_pos h]
theorem insL_length : (insL xs x).length = xs.length + 1 := by
  have := congrArg List.length (List.takeWhile_append_dropWhile (p := fun y => bef y x) (l := xs))
  rw [List.length_append] at this
  unfold insL; simp; omega
theorem followV_len (xs : List Hd) (x : Hd) : (followV xs x).1.length ≤ 11 := by
  cases h : folV xs with
  | false => rw [follow_no h]; simp
  | true =>
    have hl := (folV_iff.1 h).1
    cases h' : folV (insL xs x) with
    | false => rw [follow_not h h']; simp; omega
    | true => rw [follow_yes h h']; simp [insL_length]; omega
theorem unfollowV_len (xs : List Hd) (x : Hd) : (unfollowV xs x).1.length ≤ 11 := by
  cases h : folV xs with
  | false => rw [unfollow_no h]; simp
  | true =>
    have hl := (folV_iff.1 h).1
    rw [unfollow_yes h]
    exact Nat.le_trans (List.length_filter_le _ _) (by omega)
/-- Where the insertion stands, found by going along. -/
theorem ins_at {k : Nat} (h1 : ∀ j y, j < k → xs[j]? = some y → bef y x = true) (hk : k ≤ xs.length) (h2 : ∀ y, xs[k]? = some y → bef y x = false) : insL xs x = xs.take k ++ x :: xs.drop k := by
  have e1 : xs.takeWhile (fun y => bef y x) = xs.take k ∧ xs.dropWhile (fun y => bef y x) = xs.drop k := by
    induction xs generalizing k with
    | nil => simp
    | cons y ys ih =>
      cases k with
      | zero =>
        have := h2 y (by simp)
        simp [this]
      | succ k =>
        have h0 := h1 0 y (by omega) (by simp)
        have := ih (k := k) (fun j z hj hz => h1 (j + 1) z (by omega) (by simpa using hz)) (by simpa using hk) (fun z hz => h2 z (by simpa using hz))
        simp [h0, this.1, this.2]
  unfold insL; rw [e1.1, e1.2]
theorem rem_none (h : x ∉ xs) : remL xs x = xs := by
  unfold remL
  rw [List.filter_eq_self]
  intro y hy
  simp
  rintro rfl; exact h hy
theorem rem_at {k : Nat} (hv : xs.Pairwise (fun x y => bef x y = true)) (hk : xs[k]? = some x) : remL xs x = xs.take k ++ xs.drop (k + 1) := by
  obtain ⟨hlt, he⟩ := List.getElem?_eq_some_iff.1 hk
  have e : xs = xs.take k ++ x :: xs.drop (k + 1) := by rw [← he, List.getElem_cons_drop, List.take_append_drop]
  rw [e, List.pairwise_append] at hv
  obtain ⟨_, h2, h3⟩ := hv
  unfold remL
  conv => lhs; rw [e, List.filter_append, List.filter_cons]
  simp only [decide_true, Bool.not_true, Bool.false_eq_true, if_false]
  congr 1
  · rw [List.filter_eq_self]
    intro y hy
    have := bef_ne (h3 y hy x (by simp))
    simpa using this
  · rw [List.filter_eq_self]
    intro y hy
    have := bef_ne ((List.pairwise_cons.1 h2).1 y hy)
    simpa using fun e => this e.symm
theorem fol_tail (h : folV xs = true) (k : Nat) : folV (xs.drop k) = true := by
  obtain ⟨h1, h2, h3⟩ := folV_iff.1 h
  exact folV_iff.2 ⟨by rw [List.length_drop]; omega, fun y hy => h2 y (List.mem_of_mem_drop hy), h3.sublist (List.drop_sublist k xs)⟩
theorem fol_dup (h : xs[0]? = some x) : folV (x :: xs) = false := by
  rw [Bool.eq_false_iff]
  intro e
  obtain ⟨_, _, h3⟩ := folV_iff.1 e
  have := (List.pairwise_cons.1 h3).1 x (List.mem_of_getElem? h)
  rw [bef_irrefl] at this; cases this
end
end Go.Proofs.YtoagpfdhbcgdcaaDoor
