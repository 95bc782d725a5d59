/- The plain law of rotations: what is left of valid ones, what twice the first makes of them, which key is used when, and what one more turn leads to. -/
import Derived.Test.YtcpepjnmjiffcaaSignedOn
namespace Go.Proofs.Ytcpepjnmjiffcaa
open Go.RowKit
set_option linter.unusedVariables false
theorem getD_drop1 {α : Type} (xs : List α) (k : Nat) (d : α) : (xs.drop 1).getD k d = xs.getD (k + 1) d := by
  rw [List.getD_eq_getElem?_getD, List.getD_eq_getElem?_getD, List.getElem?_drop, Nat.add_comm 1 k]
theorem tnAt_drop {xs : List Tn} {k : Nat} (h : tnAt xs (k + 1) = true) : tnAt (xs.drop 1) k = true := by
  unfold tnAt at h ⊢
  rw [getD_drop1]
  simp only [Nat.add_sub_cancel, Nat.add_one_ne_zero, decide_false, Bool.false_or, Bool.and_eq_true] at h
  simp only [Bool.and_eq_true, Bool.or_eq_true]
  refine ⟨h.1, h.2.1, ?_⟩
  cases k with
  | zero => exact .inl (by simp)
  | succ k =>
    refine .inr ?_
    rw [getD_drop1]
    exact h.2.2
theorem tn_tail {xs : List Tn} (h : tnV xs = true) : tnV (xs.drop 1) = true := by
  obtain ⟨h1, h2⟩ := tnV_len h
  refine tnV_yes (by rw [List.length_drop]; omega) ?_
  unfold tnTo
  rw [List.all_eq_true]
  intro k hk
  rw [List.mem_range, List.length_drop] at hk
  exact tnAt_drop (tnTo_at h2 (by omega))
theorem tn_dup {xs : List Tn} {x : Tn} (h : xs[0]? = some x) : tnV (x :: xs) = false := by
  obtain ⟨d, a, b, e⟩ := x
  refine tnV_not (k := 1) (by have := (List.getElem?_eq_some_iff.1 h).1; simp; omega) ?_
  unfold tnAt
  rw [getD_of (x := (d, a, b, e)) (by simpa using h), getD_of (k := 1 - 1) (x := (d, a, b, e)) (by simp)]
  simp
theorem tn_step {xs : List Tn} (h : tnV xs = true) {j : Nat} {x y : Tn} (hx : xs[j]? = some x) (hy : xs[j + 1]? = some y) : x.1 < y.1 := by
  obtain ⟨_, h2⟩ := tnV_len h
  have h3 := tnTo_at h2 (k := j + 1) ((List.getElem?_eq_some_iff.1 hy).1)
  unfold tnAt at h3
  rw [getD_of hy, getD_of (k := j + 1 - 1) hx] at h3
  simp at h3
  exact h3.2.2.1
theorem tn_asc {xs : List Tn} (h : tnV xs = true) {i : Nat} {x : Tn} (hx : xs[i]? = some x) : ∀ (j : Nat) {y : Tn}, i < j → xs[j]? = some y → x.1 < y.1 := by
  intro j
  induction j with
  | zero => intro y h0; omega
  | succ j ih =>
    intro y hij hy
    have hlt := (List.getElem?_eq_some_iff.1 hy).1
    obtain ⟨z, hz⟩ : ∃ z, xs[j]? = some z := ⟨_, List.getElem?_eq_getElem (by omega)⟩
    have h1 := tn_step h hz hy
    rcases Nat.lt_or_ge i j with h2 | h2
    · have := ih h2 hz; omega
    · obtain rfl : i = j := by omega
      rw [hx] at hz; injection hz with hz; subst hz; exact h1
theorem tn_day {xs : List Tn} (h : tnV xs = true) {i : Nat} {d a b e : Int} (hx : xs[i]? = some (d, a, b, e)) : 0 ≤ d ∧ d ≤ 1000000000 := by
  obtain ⟨_, h2⟩ := tnV_len h
  exact inB_of (tnAt_key hx (tnTo_at h2 ((List.getElem?_eq_some_iff.1 hx).1))).2
/-- On the day of a turn its key is used. -/
theorem keyOn_at {xs : List Tn} (h : tnV xs = true) {j : Nat} {d a b e : Int} (hx : xs[j]? = some (d, a, b, e)) : keyOnV xs d = ((a, b, e), true) := by
  rw [keyOn_yes h, on_take (k := j + 1) (fun i y hi hy => by have := tn_asc h hx i (by omega) hy; dsimp only at this; omega)]
  exact on_yes hx (Int.le_refl _)
/-- Ahead of the first turn none is. -/
theorem keyOn_early {xs : List Tn} {d a b e day : Int} (hx : xs[0]? = some (d, a, b, e)) (h : tnV xs = true) (hd : day < d) : keyOnV xs day = ((0, 0, 0), false) := by
  rw [keyOn_yes h, on_take (k := 0) (fun i y hi hy => by
    rcases Nat.eq_zero_or_pos i with h0 | h0
    · subst h0; rw [hx] at hy; injection hy with hy; subst hy; dsimp only; omega
    · have := tn_asc h hx i h0 hy; dsimp only at this; omega)]
  rfl
theorem keyOn_late {xs : List Tn} {d a b e day : Int} (hx : xs[0]? = some (d, a, b, e)) (h : tnV xs = true) (hd : d ≤ day) : (keyOnV xs day).2 = true := by
  rw [keyOn_yes h]
  have hm : (d, a, b, e) ∈ onL xs day := by unfold onL; exact List.mem_filter.2 ⟨List.mem_of_getElem? hx, by simpa using hd⟩
  unfold lastK
  cases hl : (onL xs day).getLast? with
  | some x => rfl
  | none => rw [List.getLast?_eq_none_iff] at hl; rw [hl] at hm; cases hm
/-- Whether one is used on a day. -/
theorem keyOn_when {xs : List Tn} {d a b e day : Int} (hx : xs[0]? = some (d, a, b, e)) (h : tnV xs = true) : (keyOnV xs day).2 = decide (d ≤ day) := by
  by_cases hd : d ≤ day
  · rw [keyOn_late hx h hd]; simp [hd]
  · rw [keyOn_early hx h (by omega)]; simp [hd]
/-- One more turn. -/
theorem add_on {xs : List Tn} {d a b e : Int} (h : tnV (xs ++ [(d, a, b, e)]) = true) : keyOnV (xs ++ [(d, a, b, e)]) d = ((a, b, e), true) :=
  keyOn_at h (j := xs.length) (by simp)
theorem add_eve {xs : List Tn} {d a b e : Int} (h0 : tnV xs = true) (h : tnV (xs ++ [(d, a, b, e)]) = true) : keyOnV (xs ++ [(d, a, b, e)]) (d - 1) = keyOnV xs (d - 1) := by
  rw [keyOn_yes h0, keyOn_yes h]
  congr 1
  unfold onL
  rw [List.filter_append]
  simp
  omega
theorem add_cases (xs : List Tn) (d a b e : Int) : (∃ L, addV xs (d, a, b, e) = (L, false) ∧ (L = xs ∨ L = [])) ∨
    (∃ L, addV xs (d, a, b, e) = (L, true) ∧ tnV L = true ∧ keyOnV L d = ((a, b, e), true) ∧ keyOnV L (d - 1) = keyOnV xs (d - 1) ∧ 0 ≤ d ∧ d ≤ 1000000000) := by
  cases h : tnV xs with
  | false => exact .inl ⟨_, add_no h, .inr rfl⟩
  | true =>
    cases h' : tnV (xs ++ [(d, a, b, e)]) with
    | false => exact .inl ⟨_, add_not h h', .inl rfl⟩
    | true => exact .inr ⟨_, add_yes h h', h', add_on h', add_eve h h', tn_day h' (i := xs.length) (d := d) (a := a) (b := b) (e := e) (by simp)⟩
/-- A signature by the key of the day counts. -/
theorem son_now {xs : List Tn} {s : ByteArray} {m x g day a b e : Int} (hd : 0 ≤ day ∧ day ≤ 1000000000) (hk : keyOnV xs day = ((a, b, e), true)) (hb : byV s m x g a b e = true) : onV xs s m x g day = true := by
  have hv : tnV xs = true := by
    cases h : tnV xs with
    | true => rfl
    | false => rw [keyOn_no h] at hk; cases hk
  rw [son_yes (inB_yes hd) hv, List.any_eq_true]
  refine ⟨0, by simp, ?_⟩
  rw [hitB_eq (a := a) (b := b) (e := e) (p := true) (by simpa using hk), hb]; rfl
theorem son_right {xs : List Tn} {s : ByteArray} {m x g day : Int} (h : onV xs s m x g day = true) : rightV s m x g = true := by
  cases hr : rightV s m x g with
  | true => rfl
  | false => rw [son_no1 hr] at h; cases h
end Go.Proofs.Ytcpepjnmjiffcaa
