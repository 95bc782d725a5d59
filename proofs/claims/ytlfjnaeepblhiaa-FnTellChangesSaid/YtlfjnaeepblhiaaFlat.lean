/- Lists of things of several cells: how their cells lie, and how a slice that shows them is read. -/
import Derived.Test.YtlfjnaeepblhiaaMore
namespace Go.Proofs.Ytlfjnaeepblhiaa
open Go.RowKit
set_option linter.unusedVariables false

/-- A cell behind the first of a thing, as the walk spells it. -/
theorem addr_step (ad : Addr) (m i : Nat) (hi : 0 < i) : (⟨(ad.add m).block, (ad.add m).off + i, none⟩ : Addr) = ad.add (m + i) := by
  rw [← addr_add]
  generalize ad.add m = b
  unfold Addr.add
  rw [if_neg (by omega)]
section
variable {α : Type} {f : α → List Value} {k : Nat} {xs : List α}
/-- The cells of a list of things. -/
def flat (f : α → List Value) (xs : List α) : List Value := xs.flatMap f
theorem flat_nil : flat f [] = [] := rfl
theorem flat_cons (x : α) : flat f (x :: xs) = f x ++ flat f xs := rfl
theorem flat_append (ys : List α) : flat f (xs ++ ys) = flat f xs ++ flat f ys := by simp [flat]
theorem flat_length (hk : ∀ x, (f x).length = k) : ∀ xs : List α, (flat f xs).length = xs.length * k
  | [] => by simp [flat]
  | x :: xs => by rw [flat_cons, List.length_append, hk, flat_length hk xs, List.length_cons, Nat.succ_mul]; omega
theorem flat_get (hk : ∀ x, (f x).length = k) : ∀ {xs : List α} {j : Nat} {x : α}, xs[j]? = some x → ∀ {i : Nat}, i < k → (flat f xs)[j * k + i]? = (f x)[i]?
  | [], j, x, h, _, _ => by simp at h
  | y :: ys, 0, x, h, i, hi => by
      simp at h; subst h
      rw [flat_cons, Nat.zero_mul, Nat.zero_add, List.getElem?_append_left (by rw [hk]; exact hi)]
  | y :: ys, j + 1, x, h, i, hi => by
      simp at h
      rw [flat_cons, List.getElem?_append_right (by rw [hk, Nat.succ_mul]; omega), hk, show (j + 1) * k + i - k = j * k + i by rw [Nat.succ_mul]; omega]
      exact flat_get hk h hi
theorem flat_take (hk : ∀ x, (f x).length = k) : ∀ (xs : List α) (j : Nat), (flat f xs).take (j * k) = flat f (xs.take j)
  | [], j => by simp [flat]
  | x :: xs, 0 => by simp [flat]
  | x :: xs, j + 1 => by
      rw [flat_cons, List.take_succ_cons, flat_cons, show (j + 1) * k = (f x).length + j * k by rw [hk, Nat.succ_mul]; omega, List.take_length_add_append, flat_take hk xs j]
theorem flat_drop (hk : ∀ x, (f x).length = k) : ∀ (xs : List α) (j : Nat), (flat f xs).drop (j * k) = flat f (xs.drop j)
  | [], j => by simp [flat]
  | x :: xs, 0 => by simp [flat]
  | x :: xs, j + 1 => by
      rw [flat_cons, List.drop_succ_cons, show (j + 1) * k = (f x).length + j * k by rw [hk, Nat.succ_mul]; omega, List.drop_length_add_append, flat_drop hk xs j]
theorem Sl.count {w : World} {A : Option Addr} {n c : Nat} (h : Sl w A n c k (flat f xs)) (hk : ∀ x, (f x).length = k) (hp : 0 < k) : xs.length = n := by
  have := h.len
  rw [flat_length hk] at this
  exact Nat.eq_of_mul_eq_mul_right hp this
/-- The j-th thing of a slice: its cells. -/
theorem Sl.elem {w : World} {A : Option Addr} {n c : Nat} (h : Sl w A n c k (flat f xs)) (hk : ∀ x, (f x).length = k) (hp : 0 < k) {j : Nat} (hj : j < n) :
    ∃ ad x, A = some ad ∧ xs[j]? = some x ∧ ∀ i u, (f x)[i]? = some u → w.cell? (ad.add (j * k + i)) = some u := by
  have hl := h.count hk hp
  have hv : flat f xs ≠ [] := fun e => by
    have := h.len
    rw [e] at this
    have h0 : 0 < n * k := Nat.mul_pos (by omega) hp
    simp at this; omega
  rcases h.see with h0 | ⟨ad, hA, hc⟩
  · exact absurd h0 hv
  · have hx : xs[j]? = some (xs[j]'(by omega)) := List.getElem?_eq_getElem (by omega)
    refine ⟨ad, _, hA, hx, fun i u hu => hc _ u ?_⟩
    have hi : i < k := by have := (List.getElem?_eq_some_iff.1 hu).1; rwa [hk] at this
    rw [flat_get hk hx hi, hu]
end
/-- The elements from the k-th to the end, as 's[k:]' spells it. -/
theorem Sl.cut {w : World} {A : Option Addr} {n c size : Nat} {vs : List Value} (h : Sl w A n c size vs) {k K : Nat} (hk : k ≤ n) (hK : K = k * size) : Sl w (if c = k then A else A.map (fun x => x.add K)) (n - k) (c - k) size (vs.drop K) := by
  have h1 := h.len
  have h2 := h.cap
  have h3 := h.max
  by_cases e : c = k
  · have hd : vs.drop K = [] := List.drop_eq_nil_of_le (by rw [h1, hK]; exact Nat.mul_le_mul_right _ (by omega))
    rw [hd]
    exact ⟨.inl rfl, by rw [show n - k = 0 by omega]; simp, by omega, by omega⟩
  · rw [if_neg e]
    refine ⟨h.see.drop K, by rw [List.length_drop, h1, hK, Nat.sub_mul], by omega, by omega⟩
theorem own_old {w : World} {base : Nat} {e : TypeId} {size g n c : Nat} {vs : List Value} (h : w.ownsRow base e size (.slice (some ⟨g, 0, none⟩) n c) n vs) {k : Nat} (hk : k < n * size) :
    ∃ u, vs[k]? = some u ∧ w.cell? ⟨g, k, none⟩ = some u := by
  have hl := h.1
  exact ⟨vs[k]'(by omega), by simp, by rw [h.cellAt k (by omega)]; simp⟩
theorem take_set_snoc {vs ws : List Value} {k : Nat} {u : Value} (h : vs.take k = ws.take k) (hk : k < vs.length) (hu : ws[k]? = some u) : (vs.set k u).take (k + 1) = ws.take (k + 1) := by
  have hkw : k < ws.length := by
    rcases Nat.lt_or_ge k ws.length with h1 | h1
    · exact h1
    · rw [List.getElem?_eq_none h1] at hu; cases hu
  rw [List.take_succ_eq_append_getElem (by simpa using hk), List.take_succ_eq_append_getElem hkw]
  rw [List.getElem?_eq_getElem hkw] at hu
  injection hu with hu
  simp [List.take_set_of_le, h, hu]
theorem take_next {α : Type} {xs ys : List α} {k : Nat} {x : α} (h : xs.take k = ys.take k) (hx : xs[k]? = some x) (hy : ys[k]? = some x) : xs.take (k + 1) = ys.take (k + 1) := by
  rw [List.take_add_one, List.take_add_one, h, hx, hy]
theorem pair_lt0 {k n m : Nat} (h : k < n) (hm : 0 < m) : k * m < n * m := Nat.mul_lt_mul_of_pos_right h hm
theorem pair_lt {k n m : Nat} (h : k < n) {i : Nat} (hi : i < m) : k * m + i < n * m := by
  have : (k + 1) * m ≤ n * m := Nat.mul_le_mul_right _ h
  rw [Nat.succ_mul] at this; omega
end Go.Proofs.Ytlfjnaeepblhiaa
