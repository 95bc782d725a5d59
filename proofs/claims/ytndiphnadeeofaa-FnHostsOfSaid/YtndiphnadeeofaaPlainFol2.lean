/- The plain law: following undoes unfollowing, and the other way about. -/
import Derived.Test.YtndiphnadeeofaaDrawFan2
namespace Go.Proofs.Ytndiphnadeeofaa
open Go.RowKit
set_option linter.unusedVariables false
theorem ins_mem (xs : List Hd) (x : Hd) : x ∈ insL xs x := by unfold insL; simp
theorem ins_twice {xs : List Hd} {x : Hd} (h : x ∈ xs) : folV (insL xs x) = false := by
  rw [Bool.eq_false_iff]
  intro e
  obtain ⟨_, _, h3⟩ := folV_iff.1 e
  unfold insL at h3
  rw [List.pairwise_append] at h3
  obtain ⟨_, h4, h5⟩ := h3
  rw [← List.takeWhile_append_dropWhile (p := fun y => bef y x) (l := xs), List.mem_append] at h
  rcases h with h | h
  · have := h5 x h x (by simp)
    rw [bef_irrefl] at this; cases this
  · have := (List.pairwise_cons.1 h4).1 x h
    rw [bef_irrefl] at this; cases this
theorem rem_ins {xs : List Hd} {x : Hd} (h : x ∉ xs) : remL (insL xs x) x = xs := by
  have h1 : ∀ ys : List Hd, (∀ y ∈ ys, y ∈ xs) → ys.filter (fun y => !decide (y = x)) = ys := by
    intro ys hy
    rw [List.filter_eq_self]
    intro y hm
    simp
    rintro rfl
    exact h (hy _ hm)
  unfold remL insL
  rw [List.filter_append, List.filter_cons]
  simp only [decide_true, Bool.not_true, Bool.false_eq_true, if_false]
  rw [h1 _ (fun y hy => (List.takeWhile_sublist _).subset hy), h1 _ (fun y hy => (List.dropWhile_sublist _).subset hy)]
  exact List.takeWhile_append_dropWhile
theorem ins_rem {xs : List Hd} {x : Hd} (hv : xs.Pairwise (fun x y => bef x y = true)) (h : x ∈ xs) : insL (remL xs x) x = xs := by
  obtain ⟨k, hk, he⟩ := List.getElem_of_mem h
  have hx : xs[k]? = some x := by rw [List.getElem?_eq_getElem hk, he]
  have e : xs = xs.take k ++ x :: xs.drop (k + 1) := by rw [← he, List.getElem_cons_drop, List.take_append_drop]
  rw [rem_at hv hx]
  have hl : (xs.take k).length = k := by rw [List.length_take]; omega
  have hp := hv
  rw [e, List.pairwise_append] at hp
  obtain ⟨_, p2, p3⟩ := hp
  have p4 := (List.pairwise_cons.1 p2).1
  rw [ins_at (k := k) (x := x) ?_ ?_ ?_]
  · rw [List.take_append_of_le_length (by omega), List.take_take, Nat.min_self, List.drop_append_of_le_length (by omega), List.drop_eq_nil_of_le (by omega), List.nil_append]
    exact e.symm
  · intro j y hj hy
    rw [List.getElem?_append_left (by omega)] at hy
    exact p3 y (List.mem_of_getElem? hy) x (by simp)
  · rw [List.length_append, hl]; omega
  · intro y hy
    rw [List.getElem?_append_right (by omega), hl, Nat.sub_self] at hy
    exact bef_asymm (p4 y (List.mem_of_getElem? hy))
theorem follow_cases (ys : List Hd) (x : Hd) : (∃ L, followV ys x = (L, false) ∧ (L = ys ∨ L = [])) ∨ (∃ L, followV ys x = (L, true) ∧ folV L = true ∧ followV L x = (L, false) ∧ unfollowV L x = (ys, true)) := by
  cases h : folV ys with
  | false => exact .inl ⟨_, follow_no h, .inr rfl⟩
  | true =>
    cases h' : folV (insL ys x) with
    | false => exact .inl ⟨_, follow_not h h', .inl rfl⟩
    | true =>
      have hx : x ∉ ys := fun hm => by rw [ins_twice hm] at h'; cases h'
      refine .inr ⟨_, follow_yes h h', h', follow_not h' (ins_twice (ins_mem _ _)), ?_⟩
      rw [unfollow_yes h', rem_ins hx, hasL_iff.2 (ins_mem _ _)]
theorem unfollow_cases (ys : List Hd) (x : Hd) : (∃ L, unfollowV ys x = (L, false) ∧ (L = ys ∨ L = [])) ∨ (∃ L, unfollowV ys x = (L, true) ∧ folV L = true ∧ unfollowV L x = (L, false) ∧ followV L x = (ys, true)) := by
  cases h : folV ys with
  | false => exact .inl ⟨_, unfollow_no h, .inr rfl⟩
  | true =>
    cases h' : hasL ys x with
    | false =>
      have hx : x ∉ ys := fun hm => by rw [hasL_iff.2 hm] at h'; cases h'
      exact .inl ⟨_, by rw [unfollow_yes h, h'], .inl (rem_none hx)⟩
    | true =>
      have hx := hasL_iff.1 h'
      obtain ⟨f1, f2, f3⟩ := folV_iff.1 h
      have hs : (remL ys x).Sublist ys := List.filter_sublist
      have hr : folV (remL ys x) = true := folV_iff.2 ⟨Nat.le_trans hs.length_le f1, fun y hy => f2 y (hs.subset hy), f3.sublist hs⟩
      have hn : x ∉ remL ys x := by unfold remL; simp
      have hh : hasL (remL ys x) x = false := by rw [Bool.eq_false_iff]; exact fun e => hn (hasL_iff.1 e)
      have hi := ins_rem f3 hx
      refine .inr ⟨_, by rw [unfollow_yes h, h'], hr, by rw [unfollow_yes hr, hh, rem_none hn], ?_⟩
      rw [follow_yes hr (by rw [hi]; exact h), hi]
theorem unfollowV_ok {xs : List Hd} {a b : ByteArray} (h : hdOk xs) (ha : a.size ≤ 9223372036854775807) (hb : b.size ≤ 9223372036854775807) : hdOk (unfollowV xs (a, b)).1 := by
  cases hv : folV xs with
  | false => rw [unfollow_no hv]; intro x hx; simp at hx
  | true =>
    rw [unfollow_yes hv]
    intro x hx
    have hs : (remL xs (a, b)).Sublist xs := List.filter_sublist
    exact h x (hs.subset hx)
end Go.Proofs.Ytndiphnadeeofaa
